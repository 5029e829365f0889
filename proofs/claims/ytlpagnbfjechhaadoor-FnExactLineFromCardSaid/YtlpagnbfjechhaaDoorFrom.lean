/-
  Contracts of OutlineFrom (both texts).
-/
import Derived.Test.YtlpagnbfjechhaaDoorJoin
import Derived.Test.YtlpagnbfjechhaaDoorWords2
import Derived.Deep.RegionHeld3
namespace Go.Proofs.YtlpagnbfjechhaaDoor
open Go.RowKit
set_option linter.unusedSimpArgs false
set_option linter.unusedVariables false

def sizeOfB (c : UInt8) : Int := if c = 115 then 1 else if c = 109 then 2 else if c = 108 then 3 else 0
def fromAt (s : ByteArray) (i : Nat) : Stk := (((byteAt s (2 * i)).toNat : Int) - 48, sizeOfB (byteAt s (2 * i + 1)))
def fromTo (s : ByteArray) (n : Nat) : List Stk := (List.range n).map (fromAt s)
def txtOk (s : ByteArray) : Bool := decide (s.size % 2 = 0) && outOk (fromTo s (s.size / 2))
def fromOf (s : ByteArray) : List Stk := if txtOk s then fromTo s (s.size / 2) else []
theorem fromTo_len (s : ByteArray) (n : Nat) : (fromTo s n).length = n := by simp [fromTo]
theorem fromTo_succ (s : ByteArray) (n : Nat) : fromTo s (n + 1) = fromTo s n ++ [fromAt s n] := by simp [fromTo, List.range_succ]
theorem fromOf_len (s : ByteArray) : (fromOf s).length ≤ 8 := by
  unfold fromOf
  split
  · rename_i h
    simp only [txtOk, outOk, Bool.and_eq_true, decide_eq_true_eq] at h
    exact h.2.1
  · simp
theorem sizeOfB_le (c : UInt8) : 0 ≤ sizeOfB c ∧ sizeOfB c ≤ 3 := by unfold sizeOfB; split; omega; split; omega; split <;> omega
theorem idx_sml (c : UInt8) : Lib.indexByte [115, 109, 108] c + 1 = sizeOfB c := by
  have : ∀ n : Fin 256, Lib.indexByte [115, 109, 108] (UInt8.ofNat n.1) + 1 = sizeOfB (UInt8.ofNat n.1) := by decide +kernel
  have h := this ⟨c.toNat, c.toNat_lt⟩
  simpa using h
theorem sizeOfB_cases (c : UInt8) : sizeOfB c = if (c.toNat : Int) = 115 then 1 else if (c.toNat : Int) = 109 then 2 else if (c.toNat : Int) = 108 then 3 else 0 := by
  have h : ∀ n : UInt8, (c = n) ↔ (c.toNat : Int) = (n.toNat : Int) := fun n => by rw [← UInt8.toNat_inj]; omega
  simp only [sizeOfB, h]
  rfl

theorem spec_l1Size (c : UInt8) (w : World) :
    Calls Tryd.prog 21 #[.int .u8 c.toNat] w fun e w' => e = .returned (.int .i64 (sizeOfB c)) ∧ w' = w := by
  have hv := Lib.hid (sizeOfB_cases c)
  go_enter Tryd.func21, Tryd.ntmps21
  go_wp2
  all_goals
    go_ret
    refine ⟨ret_int ?_, rfl⟩
    rw [hv.out]
    simp only [beq_iff_eq, beq_eq_false_iff_ne, ne_eq] at *
    simp [*]

set_option maxRecDepth 100000 in
theorem spec_OutlineFrom (s : ByteArray) (w : World) (hs : s.size ≤ 1048576) :
    Calls Tryd.prog 16 #[.string s] w (GaveStks (fromOf s) (txtOk s) w) := by
  have own0 : (w.alloc (.cells #[] 46)).ownsRow w.heap.size 46 2 (.slice (some ⟨w.heap.size, 0, none⟩) 0 0) 0 [] := own_made0 w w.heap.size (Nat.le_refl _)
  have OWN0 := Lib.hid own0
  clear own0
  go_enter Tryd.func16, Tryd.ntmps16
  go_wp2
  go_loopw [4, 5] (fun v i wr => ∃ k j : Nat, Hid (j = 2 * k) ∧ j ≤ s.size ∧ k ≤ 1048576 ∧ i = .int .i64 (j : Int) ∧ wr.ownsRow w.heap.size 46 2 v k (flat stkC (fromTo s k)) ∧ Below w.heap.size w wr) (fun _ i _ => s.size - (intOf i).toNat)
  case atStart => exact ⟨0, 0, rfl, by omega, by decide, rfl, OWN0.out, bel_alloc (Below.refl _ _) _⟩
  case round =>
    obtain ⟨k, j, hj, hjs, hk, rfl, hown, hb⟩ := hrel
    by_cases hlt : j + 1 < s.size
    · have hlt2 : j < s.size := by omega
      have HB1 := Lib.hid (byteAt_get s j hlt2)
      have HB2 := Lib.hid (byteAt_get s (j + 1) hlt)
      have hbl : (s[j]'(by omega)).toNat < 256 := (s[j]'(by omega)).toNat_lt
      have HA : Hid (fromAt s k = (((s[j]'(by omega)).toNat : Int) - 48, sizeOfB (s[j + 1]'(by omega)))) := by
        have h0 := hj.out
        subst h0
        rw [Hid, fromAt, HB1.out, HB2.out]
      have hB := hb.size
      have hcells : Hid (flat stkC (fromTo s (k + 1)) = flat stkC (fromTo s k) ++ [.int .i64 (((s[j]'(by omega)).toNat : Int) - 48), .int .i64 (sizeOfB (s[j + 1]'(by omega)))]) := by
        rw [Hid, fromTo_succ, flat_snoc, HA.out]; rfl
      have e0 : (0 : Int) ≤ (j : Int) := by omega
      have e00 : (j : Int) < (s.size : Int) := by omega
      have e2 : (j : Int) + 1 < (s.size : Int) := by omega
      have e4 : (0 : Int) ≤ (j : Int) + 1 := by omega
      have e3 : ((j : Int) + 1).toNat = j + 1 := by omega
      have e6 : IntKind.i64.wrap ((s[j]'(by omega)).toNat : Int) = ((s[j]'(by omega)).toNat : Int) := IntWalk.i64_in _ (by omega)
      have e5 : IntKind.i64.wrap (((s[j]'(by omega)).toNat : Int) - 48) = ((s[j]'(by omega)).toNat : Int) - 48 := IntWalk.i64_in _ (by omega)
      have e1 : IntKind.i64.wrap ((j : Int) + 1) = (j : Int) + 1 := IntWalk.i64_in _ (by omega)
      go_wp2
      go_region_held3 (fun w' => True) (trivial)
        (first
          | (go_at_call 21; refine (spec_l1Size _ _).mono ?_; rintro e w' ⟨rfl, rfl⟩)
          | (refine step_append_seg _ (by rfl) (.tmp 14) (.tmp 26) 30 (by rfl) (w.heap.size) 46 _ 2 16 Tryd.underlying30 info_stk rfl (by decide) (by decide) (u4) _ _ (by rfl) ((hown.alloc _).drew) (some ⟨wr.heap.size, 0, none⟩) 1 1 [.int .i64 (((s[j]'(by omega)).toNat : Int) - 48), .int .i64 (sizeOfB (s[j + 1]'(by omega)))] _ _ (by rfl) (Seg.lit wr #[.int .i64 (((s[j]'(by omega)).toNat : Int) - 48), .int .i64 (sizeOfB (s[j + 1]'(by omega)))] 46) rfl (by simp [Value.oneCell']) (by omega) (by simp; omega) ?_; intro v' w1 hown' hgrow))
      all_goals
        have R1 : w1.ownsRow w.heap.size 46 2 v' (k + 1) (flat stkC (fromTo s (k + 1))) := by rw [hcells.out]; exact hown'
        have R2 := own_grown_below (bel_alloc hb _).drew ((hown.alloc _).drew) hgrow (by simp; omega)
        have hj2 : Hid (j + 2 = 2 * (k + 1)) := by have := hj.out; rw [Hid]; omega
        have hk2 : k + 1 ≤ 1048576 := by have := hj.out; omega
        clear hown' hgrow hown e1 e5 e6
        go_wp2
        go_roundw
        case rel => exact ⟨k + 1, j + 2, hj2, by omega, hk2, by go_num, R1, R2⟩
        case measure => simp [intOf]; omega
    · have hkl : Hid (k = s.size / 2) := by have := hj.out; rw [Hid]; omega
      have OWN : Hid (OwnStks wr w.heap.size u4 (fromTo s k)) := by rw [Hid, OwnStks, fromTo_len]; exact hown
      obtain ⟨A, c, hv, h1, h2, hseg⟩ := OWN.out.form
      rw [fromTo_len] at hv h1
      subst hv
      have hnk : (fromTo s k).length ≤ maxLen := by rw [fromTo_len]; unfold maxLen; omega
      clear hown
      by_cases hodd : s.size % 2 = 1
      · have HR : Hid (txtOk s = false ∧ fromOf s = []) := by
          have h0 : txtOk s = false := by rw [txtOk, decide_eq_false (by omega), Bool.false_and]
          exact ⟨h0, by rw [fromOf, h0]; rfl⟩
        have z : ((s.size : Int) % 2 == 1) = true := by rw [beq_iff_eq]; omega
        have HH := Lib.hid hodd
        clear hodd
        go_wp2
        go_ret2
        exact ⟨_, by rw [HR.out.1]; rfl, by rw [HR.out.2]; exact own_made0 wr _ hb.size, bel_alloc hb _⟩
      · have z : ((s.size : Int) % 2 == 1) = false := by rw [beq_eq_false_iff_ne]; omega
        have HE : Hid (txtOk s = outOk (fromTo s k)) := by rw [Hid, txtOk, decide_eq_true (by omega), Bool.true_and, hkl.out]
        have HF : Hid (fromOf s = if outOk (fromTo s k) then fromTo s k else []) := by rw [Hid, fromOf, HE.out, hkl.out]
        have hv3 := spec_OutlineValid (fromTo s k) A c wr (hseg.mono (Nat.zero_le _) (Nat.le_refl _)) hnk
        rw [fromTo_len] at hv3
        have HV := Lib.hid hv3
        have HH := Lib.hid hodd
        clear hodd hv3
        go_wp2_with fail
        refine HV.out.mono ?_
        rintro e w2 ⟨rfl, b2⟩
        have own2 := Lib.hid (own_belowB OWN.out b2)
        have bal := hb.trans (b2.mono hb.size)
        cases ho : outOk (fromTo s k)
        · have HR : Hid (txtOk s = false ∧ fromOf s = []) := ⟨by rw [HE.out, ho], by rw [HF.out, ho]; rfl⟩
          go_wp2
          go_ret2
          exact ⟨_, by rw [HR.out.1]; rfl, by rw [HR.out.2]; exact own_made0 w2 _ bal.size, bel_alloc bal _⟩
        · have HR : Hid (txtOk s = true ∧ fromOf s = fromTo s k) := ⟨by rw [HE.out, ho], by rw [HF.out, ho]; rfl⟩
          go_wp2
          go_ret2
          exact ⟨_, by rw [HR.out.1]; rfl, by rw [HR.out.2]; exact own2.out, bal⟩

theorem sml_index (c : UInt8) (w : World) :
    Calls Tryd.prog 18 #[.string ⟨#[115, 109, 108]⟩, .int .u8 c.toNat] w fun e w' => e = .returned (.int .i64 (sizeOfB c - 1)) ∧ w' = w := by
  refine (strings_IndexByte _ _ w).mono ?_
  rintro e w' ⟨rfl, rfl⟩
  refine ⟨ret_int ?_, rfl⟩
  have := idx_sml c
  simp
  omega
set_option maxRecDepth 100000 in
set_option maxHeartbeats 2000000 in
theorem impl_OutlineFrom (s : ByteArray) (w : World) (hs : s.size ≤ 1048576) :
    Calls Tryd.prog 19 #[.string s] w (GaveStks (fromOf s) (txtOk s) w) := by
  have own0 : (w.alloc (.cells #[] 46)).ownsRow w.heap.size 46 2 (.slice (some ⟨w.heap.size, 0, none⟩) 0 0) 0 [] := own_made0 w w.heap.size (Nat.le_refl _)
  have OWN0 := Lib.hid own0
  clear own0
  have hno : (s.size % 2 = 1 ∨ 17 < s.size) → txtOk s = false ∧ fromOf s = [] := by
    intro h
    have h0 : txtOk s = false := by
      rcases h with h | h
      · rw [txtOk, decide_eq_false (by omega), Bool.false_and]
      · rw [txtOk, outOk, fromTo_len, decide_eq_false (p := s.size / 2 ≤ 8) (by omega), Bool.false_and, Bool.and_false]
    exact ⟨h0, by rw [fromOf, h0]; rfl⟩
  by_cases hodd : s.size % 2 = 1
  · have HR := Lib.hid (hno (.inl hodd))
    have z : ((s.size : Int) % 2 != 0) = true := by rw [bne_iff_ne]; omega
    have HH := Lib.hid hodd
    clear hodd hno
    go_enter Tryd.func19, Tryd.ntmps19
    go_wp2
    go_ret2
    exact ⟨.slice none 0 0, by rw [HR.out.1]; rfl, by rw [HR.out.2]; exact own_none _ _, Below.refl _ _⟩
  have z : ((s.size : Int) % 2 != 0) = false := by rw [bne_eq_false_iff_eq]; omega
  by_cases h16 : (16 : Int) < s.size
  · have HR := Lib.hid (hno (.inr (by omega)))
    have HH := Lib.hid hodd
    clear hodd hno
    go_enter Tryd.func19, Tryd.ntmps19
    go_wp2
    go_ret2
    exact ⟨.slice none 0 0, by rw [HR.out.1]; rfl, by rw [HR.out.2]; exact own_none _ _, Below.refl _ _⟩
  have z2 : decide ((16 : Int) < (s.size : Int)) = false := by simp; omega
  have z3 : decide (16 < s.size) = false := by simp; omega
  have HOD := Lib.hid hodd
  clear hodd hno
  go_enter Tryd.func19, Tryd.ntmps19
  go_wp2
  go_loopw [4, 5] (fun v i wr => ∃ k j : Nat, Hid (j = 2 * k) ∧ j ≤ s.size ∧ k ≤ 1048576 ∧ i = .int .i64 (j : Int) ∧ wr.ownsRow w.heap.size 46 2 v k (flat stkC (fromTo s k)) ∧ Below w.heap.size w wr) (fun _ i _ => s.size - (intOf i).toNat)
  case atStart => exact ⟨0, 0, rfl, by omega, by decide, rfl, OWN0.out, bel_alloc (Below.refl _ _) _⟩
  case round =>
    obtain ⟨k, j, hj, hjs, hk, rfl, hown, hb⟩ := hrel
    by_cases hlt0 : j < s.size
    · have hlt2 : j < s.size := hlt0
      have hlt : j + 1 < s.size := by have := hj.out; have := HOD.out; omega
      have HB1 := Lib.hid (byteAt_get s j hlt2)
      have HB2 := Lib.hid (byteAt_get s (j + 1) hlt)
      have hbl : (s[j]'(by omega)).toNat < 256 := (s[j]'(by omega)).toNat_lt
      have HA : Hid (fromAt s k = (((s[j]'(by omega)).toNat : Int) - 48, sizeOfB (s[j + 1]'(by omega)))) := by
        have h0 := hj.out
        subst h0
        rw [Hid, fromAt, HB1.out, HB2.out]
      have hB := hb.size
      have hcells : Hid (flat stkC (fromTo s (k + 1)) = flat stkC (fromTo s k) ++ [.int .i64 (((s[j]'(by omega)).toNat : Int) - 48), .int .i64 (sizeOfB (s[j + 1]'(by omega)))]) := by
        rw [Hid, fromTo_succ, flat_snoc, HA.out]; rfl
      have e0 : (0 : Int) ≤ (j : Int) := by omega
      have e00 : (j : Int) < (s.size : Int) := by omega
      have e2 : (j : Int) + 1 < (s.size : Int) := by omega
      have e4 : (0 : Int) ≤ (j : Int) + 1 := by omega
      have e3 : ((j : Int) + 1).toNat = j + 1 := by omega
      have e6 : IntKind.i64.wrap ((s[j]'(by omega)).toNat : Int) = ((s[j]'(by omega)).toNat : Int) := IntWalk.i64_in _ (by omega)
      have e5 : IntKind.i64.wrap (((s[j]'(by omega)).toNat : Int) - 48) = ((s[j]'(by omega)).toNat : Int) - 48 := IntWalk.i64_in _ (by omega)
      have e8 : IntKind.i64.wrap (sizeOfB (s[j + 1]'(by omega))) = sizeOfB (s[j + 1]'(by omega)) := IntWalk.i64_in _ (by have := sizeOfB_le (s[j + 1]'(by omega)); omega)
      have e7 : IntKind.i64.wrap (sizeOfB (s[j + 1]'(by omega)) - 1 + 1) = sizeOfB (s[j + 1]'(by omega)) := by rw [Int.sub_add_cancel]; exact IntWalk.i64_in _ (by have := sizeOfB_le (s[j + 1]'(by omega)); omega)
      have e1 : IntKind.i64.wrap ((j : Int) + 1) = (j : Int) + 1 := IntWalk.i64_in _ (by omega)
      go_wp2
      go_region_held3 (fun w' => True) (trivial)
        (first
          | (go_at_call 18; refine (sml_index (s[j + 1]'(by omega)) _).mono ?_; rintro e w' ⟨rfl, rfl⟩)
          | (refine step_append_seg _ (by rfl) (.tmp 22) (.tmp 35) 30 (by rfl) (w.heap.size) 46 _ 2 16 Tryd.underlying30 info_stk rfl (by decide) (by decide) (u4) _ _ (by rfl) ((hown.alloc _).drew) (some ⟨wr.heap.size, 0, none⟩) 1 1 [.int .i64 (((s[j]'(by omega)).toNat : Int) - 48), .int .i64 (sizeOfB (s[j + 1]'(by omega)))] _ _ (by rfl) (Seg.lit wr #[.int .i64 (((s[j]'(by omega)).toNat : Int) - 48), .int .i64 (sizeOfB (s[j + 1]'(by omega)))] 46) rfl (by simp [Value.oneCell']) (by omega) (by simp; omega) ?_; intro v' w1 hown' hgrow))
      all_goals
        have R1 : w1.ownsRow w.heap.size 46 2 v' (k + 1) (flat stkC (fromTo s (k + 1))) := by rw [hcells.out]; exact hown'
        have R2 := own_grown_below (bel_alloc hb _).drew ((hown.alloc _).drew) hgrow (by simp; omega)
        have hj2 : Hid (j + 2 = 2 * (k + 1)) := by have := hj.out; rw [Hid]; omega
        have hk2 : k + 1 ≤ 1048576 := by have := hj.out; omega
        clear hown' hgrow hown e1 e5 e6 e7 e8
        go_wp2
        go_roundw
        case rel => exact ⟨k + 1, j + 2, hj2, by omega, hk2, by go_num, R1, R2⟩
        case measure => simp [intOf]; omega
    · have hkl : Hid (k = s.size / 2) := by have := hj.out; have := HOD.out; rw [Hid]; omega
      have OWN : Hid (OwnStks wr w.heap.size u4 (fromTo s k)) := by rw [Hid, OwnStks, fromTo_len]; exact hown
      obtain ⟨A, c, hv, h1, h2, hseg⟩ := OWN.out.form
      rw [fromTo_len] at hv h1
      subst hv
      have hnk : (fromTo s k).length ≤ maxLen := by rw [fromTo_len]; unfold maxLen; omega
      clear hown
      have HE : Hid (txtOk s = outOk (fromTo s k)) := by rw [Hid, txtOk, decide_eq_true (by have := HOD.out; omega), Bool.true_and, hkl.out]
      have HF : Hid (fromOf s = if outOk (fromTo s k) then fromTo s k else []) := by rw [Hid, fromOf, HE.out, hkl.out]
      have hv3 := impl_OutlineValid (fromTo s k) A c wr (hseg.mono (Nat.zero_le _) (Nat.le_refl _)) hnk
      rw [fromTo_len] at hv3
      have HV := Lib.hid hv3
      clear hv3
      go_wp2_with fail
      refine HV.out.mono ?_
      rintro e w2 ⟨rfl, b2⟩
      have own2 := Lib.hid (own_belowB OWN.out b2)
      have bal := hb.trans (b2.mono hb.size)
      cases ho : outOk (fromTo s k)
      · have HR : Hid (txtOk s = false ∧ fromOf s = []) := ⟨by rw [HE.out, ho], by rw [HF.out, ho]; rfl⟩
        go_wp2
        go_ret2
        exact ⟨.slice none 0 0, by rw [HR.out.1]; rfl, by rw [HR.out.2]; exact own_none _ _, bal⟩
      · have HR : Hid (txtOk s = true ∧ fromOf s = fromTo s k) := ⟨by rw [HE.out, ho], by rw [HF.out, ho]; rfl⟩
        go_wp2
        go_ret2
        exact ⟨_, by rw [HR.out.1]; rfl, by rw [HR.out.2]; exact own2.out, bal⟩
end Go.Proofs.YtlpagnbfjechhaaDoor
