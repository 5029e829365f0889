/-
  Contracts of WrittenFrom (both texts).
-/
import Derived.Test.YtlpagnbfjechhaaDoorFrom
import Derived.Test.YtlpagnbfjechhaaDoorLine
namespace Go.Proofs.YtlpagnbfjechhaaDoor
open Go.RowKit Go.Sort
set_option linter.unusedSimpArgs false
set_option linter.unusedVariables false

def markIdx (c : UInt8) : Int := if c = 94 then 0 else if c = 45 then 1 else if c = 95 then 2 else -1
theorem idx_marks (c : UInt8) : Lib.indexByte [94, 45, 95] c = markIdx c := by
  have : ∀ n : Fin 256, Lib.indexByte [94, 45, 95] (UInt8.ofNat n.1) = markIdx (UInt8.ofNat n.1) := by decide +kernel
  have h := this ⟨c.toNat, c.toNat_lt⟩
  simpa using h
theorem markIdx_le (c : UInt8) : -1 ≤ markIdx c ∧ markIdx c ≤ 2 := by unfold markIdx; split; omega; split; omega; split <;> omega
theorem markIdx_cases (c : UInt8) : markIdx c = if (c.toNat : Int) = 94 then 0 else if (c.toNat : Int) = 45 then 1 else if (c.toNat : Int) = 95 then 2 else -1 := by
  have h : ∀ n : UInt8, (c = n) ↔ (c.toNat : Int) = (n.toNat : Int) := fun n => by rw [← UInt8.toNat_inj]; omega
  simp only [markIdx, h]
  rfl
def restOf (s : Str) : Str := s.extract 1 s.size
def wfOk (s : Str) : Bool := decide (0 < s.size) && decide (0 ≤ markIdx (byteAt s 0)) && txtOk (restOf s)
def wfOf (s : Str) : List Stk := if wfOk s then fromOf (restOf s) else []
def wfP (s : Str) : Int := if wfOk s then markIdx (byteAt s 0) else 0
theorem wfOf_len (s : Str) : (wfOf s).length ≤ 8 := by
  unfold wfOf
  split
  · exact fromOf_len _
  · simp
theorem wf_no {s : Str} (h : wfOk s = false) : wfOf s = [] ∧ wfP s = 0 := ⟨by rw [wfOf, h]; rfl, by rw [wfP, h]; rfl⟩
theorem wf_yes {s : Str} (h : wfOk s = true) : wfOf s = fromOf (restOf s) ∧ wfP s = markIdx (byteAt s 0) := ⟨by rw [wfOf, h]; rfl, by rw [wfP, h]; rfl⟩
theorem rest_size (s : Str) : (restOf s).size ≤ s.size := by simp [restOf, ByteArray.size_extract]
theorem marks_index (c : UInt8) (w : World) :
    Calls Tryd.prog 18 #[.string ⟨#[94, 45, 95]⟩, .int .u8 c.toNat] w fun e w' => e = .returned (.int .i64 (markIdx c)) ∧ w = w' := by
  refine (strings_IndexByte _ _ w).mono ?_
  rintro e w' ⟨rfl, rfl⟩
  refine ⟨ret_int ?_, rfl⟩
  have := idx_marks c
  simpa using this

set_option maxRecDepth 100000 in
theorem impl_WrittenFrom (s : Str) (w : World) (hs : s.size ≤ 1048576) :
    Calls Tryd.prog 12 #[.string s] w (GaveWrt (wfOf s) (wfP s) (wfOk s) w) := by
  have bB := bel_alloc (Below.refl w.heap.size w) (.cells #[.slice none 0 0, .int .i64 0] 32)
  by_cases h0 : s.size = 0
  · have hk : wfOk s = false := by rw [wfOk, decide_eq_false (by omega)]; rfl
    have HR := Lib.hid (wf_no hk)
    have HK := Lib.hid hk
    have hl0 : s.data.toList = [] := List.eq_nil_of_length_eq_zero (by simpa using h0)
    have z2 : ByteArray.toList s = [] := by rw [ByteArray.toList_eq]; exact hl0
    have z1 : (ByteArray.toList s == []) = true := by rw [z2]; rfl
    clear hk h0 hl0
    go_enter Tryd.func12, Tryd.ntmps12
    go_wp2
    exact bodyPost_ret (v := .tuple #[.agg #[.slice none 0 0, .int .i64 0], .bool false]) (by simp [results, Tryd.results12, go_sem]) rfl ⟨.slice none 0 0, by rw [HR.out.2, HK.out], by rw [HR.out.1]; exact own_none _ _, bB⟩
  · have h1 : 0 < s.size := by omega
    have h1i : (1 : Int) ≤ (s.size : Int) := by omega
    have HB0 := Lib.hid (byteAt_get s 0 h1)
    have hne : (ByteArray.toList s == []) = false := by
      rw [ByteArray.toList_eq, beq_eq_false_iff_ne]
      intro e
      have h5 : s.data.toList.length = s.size := rfl
      rw [e] at h5
      simp at h5
      omega
    have hrs : (restOf s).size ≤ 1048576 := Nat.le_trans (rest_size s) hs
    have HK : Hid (wfOk s = (decide (0 ≤ markIdx s[0]) && txtOk (restOf s))) := by rw [Hid, wfOk, decide_eq_true h1, HB0.out]; rfl
    have HNO := Lib.hid (@wf_no s)
    have HYES := Lib.hid (@wf_yes s)
    have hml := markIdx_le s[0]
    have H0 := Lib.hid h0
    clear h0
    go_enter Tryd.func12, Tryd.ntmps12
    go_wp2_with fail
    refine (marks_index s[0] _).mono ?_
    rintro e w' ⟨rfl, rfl⟩
    go_wp2_with fail
    refine (impl_OutlineFrom (restOf s) _ hrs).mono ?_
    rintro e w1 ⟨v2, rfl, own2, b1⟩
    have bal := bel_trans bB b1
    have f0 : w1.cell? ⟨w.heap.size, 0, none⟩ = some (.slice none 0 0) := box_later b1 0
    have f1 : w1.cell? ⟨w.heap.size, 1, none⟩ = some (.int .i64 0) := box_later b1 1
    have f2 : w1.frozen? ⟨w.heap.size, 0, none⟩ = false := (b1.frozen (p := ⟨w.heap.size, 0, none⟩) (by simp)).trans (box_frozen _ _ _ _)
    have f3 : w1.frozen? ⟨w.heap.size, 1, none⟩ = false := (b1.frozen (p := ⟨w.heap.size, 1, none⟩) (by simp)).trans (box_frozen _ _ _ _)
    have hlt : w.heap.size < (w.alloc (.cells #[.slice none 0 0, .int .i64 0] 32)).heap.size := by simp
    obtain ⟨A2, c2, rfl, _, _, _⟩ := own2.form
    have OWN : Hid (∀ u0 u1, OwnStks ((w1.setCell ⟨w.heap.size, 0, none⟩ u0).setCell ⟨w.heap.size, 1, none⟩ u1) w.heap.size (.slice A2 (fromOf (restOf s)).length c2) (fromOf (restOf s))) :=
      fun u0 u1 => own_mono (own_set1 (own_set1 own2 hlt u0) hlt u1) (Nat.le_of_lt hlt)
    clear b1 bB own2 hlt
    by_cases hm : markIdx s[0] < 0
    · have hk : wfOk s = false := by rw [HK.out, decide_eq_false (by omega)]; rfl
      have HR := Lib.hid (HNO.out hk)
      have HKK := Lib.hid hk
      clear hk
      go_wp2
      exact bodyPost_ret (v := .tuple #[.agg #[.slice none 0 0, .int .i64 0], .bool false]) (by simp [results, Tryd.results12, go_sem, f0, f1, f2, f3]) rfl ⟨.slice none 0 0, by rw [HR.out.2, HKK.out], by rw [HR.out.1]; exact own_none _ _, (bal.setCell (p := ⟨w.heap.size, 0, none⟩) (Nat.le_refl _) _).setCell (p := ⟨w.heap.size, 1, none⟩) (Nat.le_refl _) _⟩
    · cases ht : txtOk (restOf s)
      · have hk : wfOk s = false := by rw [HK.out, ht, Bool.and_false]
        have HR := Lib.hid (HNO.out hk)
        have HKK := Lib.hid hk
        clear hk
        go_wp2
        exact bodyPost_ret (v := .tuple #[.agg #[.slice none 0 0, .int .i64 0], .bool false]) (by simp [results, Tryd.results12, go_sem, f0, f1, f2, f3]) rfl ⟨.slice none 0 0, by rw [HR.out.2, HKK.out], by rw [HR.out.1]; exact own_none _ _, (bal.setCell (p := ⟨w.heap.size, 0, none⟩) (Nat.le_refl _) _).setCell (p := ⟨w.heap.size, 1, none⟩) (Nat.le_refl _) _⟩
      · have hk : wfOk s = true := by rw [HK.out, ht, decide_eq_true (by omega)]; rfl
        have HR := Lib.hid (HYES.out hk)
        have HKK := Lib.hid hk
        clear hk
        go_wp2
        exact bodyPost_ret (v := .tuple #[.agg #[.slice A2 (fromOf (restOf s)).length c2, .int .i64 (markIdx s[0])], .bool true]) (by simp [results, Tryd.results12, go_sem, f0, f1, f2, f3]) rfl ⟨.slice A2 (fromOf (restOf s)).length c2, by rw [HR.out.2, HKK.out, HB0.out], by rw [HR.out.1]; exact OWN.out _ _, (bal.setCell (p := ⟨w.heap.size, 0, none⟩) (Nat.le_refl _) _).setCell (p := ⟨w.heap.size, 1, none⟩) (Nat.le_refl _) _⟩

/-- the reference's search: none of the first marks is there -/
def NoMark (s : Str) (k : Nat) : Prop := ∀ j, j < k → markIdx (byteAt s 0) ≠ (j : Int)
set_option maxRecDepth 100000 in
set_option maxHeartbeats 1000000 in
theorem spec_WrittenFrom (s : Str) (w : World) (hs : s.size ≤ 1048576) :
    Calls Tryd.prog 10 #[.string s] w (GaveWrt (wfOf s) (wfP s) (wfOk s) w) := by
  have bB := bel_alloc (Below.refl w.heap.size w) (.cells #[.slice none 0 0, .int .i64 0] 32)
  by_cases h0 : s.size = 0
  · have hk : wfOk s = false := by rw [wfOk, decide_eq_false (by omega)]; rfl
    have HR := Lib.hid (wf_no hk)
    have HK := Lib.hid hk
    have hl0 : s.data.toList = [] := List.eq_nil_of_length_eq_zero (by simpa using h0)
    have z2 : ByteArray.toList s = [] := by rw [ByteArray.toList_eq]; exact hl0
    have z1 : (ByteArray.toList s == []) = true := by rw [z2]; rfl
    clear hk h0 hl0
    go_enter Tryd.func10, Tryd.ntmps10
    go_wp2
    exact bodyPost_ret (v := .tuple #[.agg #[.slice none 0 0, .int .i64 0], .bool false]) (by simp [results, Tryd.results10, go_sem]) rfl ⟨.slice none 0 0, by rw [HR.out.2, HK.out], by rw [HR.out.1]; exact own_none _ _, bB⟩
  have h1 : 0 < s.size := by omega
  have h1i : (1 : Int) ≤ (s.size : Int) := by omega
  have HB0 := Lib.hid (byteAt_get s 0 h1)
  have hne : (ByteArray.toList s == []) = false := by
    rw [ByteArray.toList_eq, beq_eq_false_iff_ne]
    intro e
    have h5 : s.data.toList.length = s.size := rfl
    rw [e] at h5
    simp at h5
    omega
  have hrs : (restOf s).size ≤ 1048576 := Nat.le_trans (rest_size s) hs
  have HK : Hid (wfOk s = (decide (0 ≤ markIdx s[0]) && txtOk (restOf s))) := by rw [Hid, wfOk, decide_eq_true h1, HB0.out]; rfl
  have HNO := Lib.hid (@wf_no s)
  have HYES := Lib.hid (@wf_yes s)
  have HMC := Lib.hid (markIdx_cases s[0])
  have H0 := Lib.hid h0
  have k0 : (w.alloc (.cells #[.slice none 0 0, .int .i64 0] 32)).cell? ⟨w.heap.size, 0, none⟩ = some (.slice none 0 0) := box_cell _ _ _ 0
  have k1 : (w.alloc (.cells #[.slice none 0 0, .int .i64 0] 32)).cell? ⟨w.heap.size, 1, none⟩ = some (.int .i64 0) := box_cell _ _ _ 1
  have k2 : (w.alloc (.cells #[.slice none 0 0, .int .i64 0] 32)).frozen? ⟨w.heap.size, 0, none⟩ = false := box_frozen _ _ _ _
  have k3 : (w.alloc (.cells #[.slice none 0 0, .int .i64 0] 32)).frozen? ⟨w.heap.size, 1, none⟩ = false := box_frozen _ _ _ _
  have hlt : w.heap.size < (w.alloc (.cells #[.slice none 0 0, .int .i64 0] 32)).heap.size := by simp
  clear h0
  go_enter Tryd.func10, Tryd.ntmps10
  go_wp2
  generalize w.alloc (.cells #[.slice none 0 0, .int .i64 0] 32) = w0 at *
  go_loopw [4] (fun i wr => ∃ k : Nat, k ≤ 3 ∧ i = .int .i64 k ∧ Hid (NoMark s k) ∧ Hid (∃ n, wr = w0.drewN n)) (fun i _ => 3 - (intOf i).toNat)
  case atStart => exact ⟨0, by decide, rfl, fun j hj => by omega, 0, rfl⟩
  case round =>
    obtain ⟨k, hk, rfl, hno, hd⟩ := hrel
    obtain ⟨m, hm⟩ := hd.out
    have f0 : wr.cell? ⟨w.heap.size, 0, none⟩ = some (.slice none 0 0) := by rw [hm]; exact k0
    have f1 : wr.cell? ⟨w.heap.size, 1, none⟩ = some (.int .i64 0) := by rw [hm]; exact k1
    have f2 : wr.frozen? ⟨w.heap.size, 0, none⟩ = false := by rw [hm]; exact k2
    have f3 : wr.frozen? ⟨w.heap.size, 1, none⟩ = false := by rw [hm]; exact k3
    have bwr : Below w.heap.size w wr := by rw [hm]; exact Below_drewN bB m
    have hltr : w.heap.size < wr.heap.size := by rw [hm]; exact hlt
    have hd2 := hd
    clear hm k0 k1 k2 k3 hlt bB hd
    by_cases hlt3 : k < 3
    · have hcase : k = 0 ∨ k = 1 ∨ k = 2 := by omega
      clear hk hlt3
      rcases hcase with rfl | rfl | rfl
      · by_cases he : (s[0].toNat : Int) = 94
        · have HM : Hid (markIdx s[0] = 0) := by rw [Hid, HMC.out, if_pos he]
          have hbeq : ((s[0].toNat : Int) == (((⟨#[94, 45, 95]⟩ : ByteArray)[0]'(by decide)).toNat : Int)) = true := beq_iff_eq.2 he
          have HE := Lib.hid he
          clear he
          go_wp2
          go_quiet (fail)
          go_wp2_with fail
          refine (spec_OutlineFrom (restOf s) _ hrs).mono ?_
          rintro e w1 ⟨v2, rfl, own2, b1⟩
          have bal := bel_trans (Below_drewN bwr nq) b1
          have g0 : w1.cell? ⟨w.heap.size, 0, none⟩ = some (.slice none 0 0) := (b1.cell (p := ⟨w.heap.size, 0, none⟩) hltr).trans f0
          have g1 : w1.cell? ⟨w.heap.size, 1, none⟩ = some (.int .i64 0) := (b1.cell (p := ⟨w.heap.size, 1, none⟩) hltr).trans f1
          have g2 : w1.frozen? ⟨w.heap.size, 0, none⟩ = false := (b1.frozen (p := ⟨w.heap.size, 0, none⟩) hltr).trans f2
          have g3 : w1.frozen? ⟨w.heap.size, 1, none⟩ = false := (b1.frozen (p := ⟨w.heap.size, 1, none⟩) hltr).trans f3
          have own2 : OwnStks w1 wr.heap.size v2 (fromOf (restOf s)) := own2
          obtain ⟨A2, c2, rfl, _, _, _⟩ := own2.form
          have OWN : Hid (∀ u0 u1, OwnStks ((w1.setCell ⟨w.heap.size, 0, none⟩ u0).setCell ⟨w.heap.size, 1, none⟩ u1) w.heap.size (.slice A2 (fromOf (restOf s)).length c2) (fromOf (restOf s))) :=
            fun u0 u1 => own_mono (own_set1 (own_set1 own2 hltr u0) hltr u1) (Nat.le_of_lt hltr)
          clear b1 own2 f0 f1 f2 f3
          cases ht : txtOk (restOf s)
          · have hkk : wfOk s = false := by rw [HK.out, ht, Bool.and_false]
            have HR := Lib.hid (HNO.out hkk)
            have HKK := Lib.hid hkk
            clear hkk
            go_wp2
            exact bodyPost_ret (v := .tuple #[.agg #[.slice none 0 0, .int .i64 0], .bool false]) (by simp [results, Tryd.results10, go_sem, g0, g1, g2, g3]) rfl ⟨.slice none 0 0, by rw [HR.out.2, HKK.out], by rw [HR.out.1]; exact own_none _ _, (bal.setCell (p := ⟨w.heap.size, 0, none⟩) (Nat.le_refl _) _).setCell (p := ⟨w.heap.size, 1, none⟩) (Nat.le_refl _) _⟩
          · have hkk : wfOk s = true := by rw [HK.out, ht, HM.out]; rfl
            have HR := Lib.hid (HYES.out hkk)
            have HKK := Lib.hid hkk
            clear hkk
            go_wp2
            exact bodyPost_ret (v := .tuple #[.agg #[.slice A2 (fromOf (restOf s)).length c2, .int .i64 0], .bool true]) (by simp [results, Tryd.results10, go_sem, g0, g1, g2, g3]) rfl ⟨.slice A2 (fromOf (restOf s)).length c2, by rw [HR.out.2, HKK.out, ← HB0.out, HM.out], by rw [HR.out.1]; exact OWN.out _ _, (bal.setCell (p := ⟨w.heap.size, 0, none⟩) (Nat.le_refl _) _).setCell (p := ⟨w.heap.size, 1, none⟩) (Nat.le_refl _) _⟩
        · have HN : Hid (NoMark s 1) := by
            intro j hj
            by_cases e : j = 0
            · subst e; rw [← HB0.out, HMC.out, if_neg he]; split <;> (try split) <;> decide
            · omega
          have hbeq : ((s[0].toNat : Int) == (((⟨#[94, 45, 95]⟩ : ByteArray)[0]'(by decide)).toNat : Int)) = false := beq_eq_false_iff_ne.2 he
          have HE := Lib.hid he
          clear he
          go_wp2
          go_quiet (fail)
          go_wp2
          go_roundw
          case rel => exact ⟨1, by omega, by go_num, HN, by obtain ⟨m, hm⟩ := hd2.out; exact ⟨m + nq, by rw [hm, World.drewN_drewN]⟩⟩
          case measure => simp [intOf]
      · by_cases he : (s[0].toNat : Int) = 45
        · have HM : Hid (markIdx s[0] = 1) := by rw [Hid, HMC.out, if_neg (by omega), if_pos he]
          have hbeq : ((s[0].toNat : Int) == (((⟨#[94, 45, 95]⟩ : ByteArray)[1]'(by decide)).toNat : Int)) = true := beq_iff_eq.2 he
          have HE := Lib.hid he
          clear he
          go_wp2
          go_quiet (fail)
          go_wp2_with fail
          refine (spec_OutlineFrom (restOf s) _ hrs).mono ?_
          rintro e w1 ⟨v2, rfl, own2, b1⟩
          have bal := bel_trans (Below_drewN bwr nq) b1
          have g0 : w1.cell? ⟨w.heap.size, 0, none⟩ = some (.slice none 0 0) := (b1.cell (p := ⟨w.heap.size, 0, none⟩) hltr).trans f0
          have g1 : w1.cell? ⟨w.heap.size, 1, none⟩ = some (.int .i64 0) := (b1.cell (p := ⟨w.heap.size, 1, none⟩) hltr).trans f1
          have g2 : w1.frozen? ⟨w.heap.size, 0, none⟩ = false := (b1.frozen (p := ⟨w.heap.size, 0, none⟩) hltr).trans f2
          have g3 : w1.frozen? ⟨w.heap.size, 1, none⟩ = false := (b1.frozen (p := ⟨w.heap.size, 1, none⟩) hltr).trans f3
          have own2 : OwnStks w1 wr.heap.size v2 (fromOf (restOf s)) := own2
          obtain ⟨A2, c2, rfl, _, _, _⟩ := own2.form
          have OWN : Hid (∀ u0 u1, OwnStks ((w1.setCell ⟨w.heap.size, 0, none⟩ u0).setCell ⟨w.heap.size, 1, none⟩ u1) w.heap.size (.slice A2 (fromOf (restOf s)).length c2) (fromOf (restOf s))) :=
            fun u0 u1 => own_mono (own_set1 (own_set1 own2 hltr u0) hltr u1) (Nat.le_of_lt hltr)
          clear b1 own2 f0 f1 f2 f3
          cases ht : txtOk (restOf s)
          · have hkk : wfOk s = false := by rw [HK.out, ht, Bool.and_false]
            have HR := Lib.hid (HNO.out hkk)
            have HKK := Lib.hid hkk
            clear hkk
            go_wp2
            exact bodyPost_ret (v := .tuple #[.agg #[.slice none 0 0, .int .i64 0], .bool false]) (by simp [results, Tryd.results10, go_sem, g0, g1, g2, g3]) rfl ⟨.slice none 0 0, by rw [HR.out.2, HKK.out], by rw [HR.out.1]; exact own_none _ _, (bal.setCell (p := ⟨w.heap.size, 0, none⟩) (Nat.le_refl _) _).setCell (p := ⟨w.heap.size, 1, none⟩) (Nat.le_refl _) _⟩
          · have hkk : wfOk s = true := by rw [HK.out, ht, HM.out]; rfl
            have HR := Lib.hid (HYES.out hkk)
            have HKK := Lib.hid hkk
            clear hkk
            go_wp2
            exact bodyPost_ret (v := .tuple #[.agg #[.slice A2 (fromOf (restOf s)).length c2, .int .i64 1], .bool true]) (by simp [results, Tryd.results10, go_sem, g0, g1, g2, g3]) rfl ⟨.slice A2 (fromOf (restOf s)).length c2, by rw [HR.out.2, HKK.out, ← HB0.out, HM.out], by rw [HR.out.1]; exact OWN.out _ _, (bal.setCell (p := ⟨w.heap.size, 0, none⟩) (Nat.le_refl _) _).setCell (p := ⟨w.heap.size, 1, none⟩) (Nat.le_refl _) _⟩
        · have HN : Hid (NoMark s 2) := by
            intro j hj
            by_cases e : j = 1
            · subst e; rw [← HB0.out, HMC.out, if_neg he]; split <;> (try split) <;> decide
            · exact hno.out j (by omega)
          have hbeq : ((s[0].toNat : Int) == (((⟨#[94, 45, 95]⟩ : ByteArray)[1]'(by decide)).toNat : Int)) = false := beq_eq_false_iff_ne.2 he
          have HE := Lib.hid he
          clear he
          go_wp2
          go_quiet (fail)
          go_wp2
          go_roundw
          case rel => exact ⟨2, by omega, by go_num, HN, by obtain ⟨m, hm⟩ := hd2.out; exact ⟨m + nq, by rw [hm, World.drewN_drewN]⟩⟩
          case measure => simp [intOf]
      · by_cases he : (s[0].toNat : Int) = 95
        · have HM : Hid (markIdx s[0] = 2) := by rw [Hid, HMC.out, if_neg (by omega), if_neg (by omega), if_pos he]
          have hbeq : ((s[0].toNat : Int) == (((⟨#[94, 45, 95]⟩ : ByteArray)[2]'(by decide)).toNat : Int)) = true := beq_iff_eq.2 he
          have HE := Lib.hid he
          clear he
          go_wp2
          go_quiet (fail)
          go_wp2_with fail
          refine (spec_OutlineFrom (restOf s) _ hrs).mono ?_
          rintro e w1 ⟨v2, rfl, own2, b1⟩
          have bal := bel_trans (Below_drewN bwr nq) b1
          have g0 : w1.cell? ⟨w.heap.size, 0, none⟩ = some (.slice none 0 0) := (b1.cell (p := ⟨w.heap.size, 0, none⟩) hltr).trans f0
          have g1 : w1.cell? ⟨w.heap.size, 1, none⟩ = some (.int .i64 0) := (b1.cell (p := ⟨w.heap.size, 1, none⟩) hltr).trans f1
          have g2 : w1.frozen? ⟨w.heap.size, 0, none⟩ = false := (b1.frozen (p := ⟨w.heap.size, 0, none⟩) hltr).trans f2
          have g3 : w1.frozen? ⟨w.heap.size, 1, none⟩ = false := (b1.frozen (p := ⟨w.heap.size, 1, none⟩) hltr).trans f3
          have own2 : OwnStks w1 wr.heap.size v2 (fromOf (restOf s)) := own2
          obtain ⟨A2, c2, rfl, _, _, _⟩ := own2.form
          have OWN : Hid (∀ u0 u1, OwnStks ((w1.setCell ⟨w.heap.size, 0, none⟩ u0).setCell ⟨w.heap.size, 1, none⟩ u1) w.heap.size (.slice A2 (fromOf (restOf s)).length c2) (fromOf (restOf s))) :=
            fun u0 u1 => own_mono (own_set1 (own_set1 own2 hltr u0) hltr u1) (Nat.le_of_lt hltr)
          clear b1 own2 f0 f1 f2 f3
          cases ht : txtOk (restOf s)
          · have hkk : wfOk s = false := by rw [HK.out, ht, Bool.and_false]
            have HR := Lib.hid (HNO.out hkk)
            have HKK := Lib.hid hkk
            clear hkk
            go_wp2
            exact bodyPost_ret (v := .tuple #[.agg #[.slice none 0 0, .int .i64 0], .bool false]) (by simp [results, Tryd.results10, go_sem, g0, g1, g2, g3]) rfl ⟨.slice none 0 0, by rw [HR.out.2, HKK.out], by rw [HR.out.1]; exact own_none _ _, (bal.setCell (p := ⟨w.heap.size, 0, none⟩) (Nat.le_refl _) _).setCell (p := ⟨w.heap.size, 1, none⟩) (Nat.le_refl _) _⟩
          · have hkk : wfOk s = true := by rw [HK.out, ht, HM.out]; rfl
            have HR := Lib.hid (HYES.out hkk)
            have HKK := Lib.hid hkk
            clear hkk
            go_wp2
            exact bodyPost_ret (v := .tuple #[.agg #[.slice A2 (fromOf (restOf s)).length c2, .int .i64 2], .bool true]) (by simp [results, Tryd.results10, go_sem, g0, g1, g2, g3]) rfl ⟨.slice A2 (fromOf (restOf s)).length c2, by rw [HR.out.2, HKK.out, ← HB0.out, HM.out], by rw [HR.out.1]; exact OWN.out _ _, (bal.setCell (p := ⟨w.heap.size, 0, none⟩) (Nat.le_refl _) _).setCell (p := ⟨w.heap.size, 1, none⟩) (Nat.le_refl _) _⟩
        · have HN : Hid (NoMark s 3) := by
            intro j hj
            by_cases e : j = 2
            · subst e; rw [← HB0.out, HMC.out, if_neg he]; split <;> (try split) <;> decide
            · exact hno.out j (by omega)
          have hbeq : ((s[0].toNat : Int) == (((⟨#[94, 45, 95]⟩ : ByteArray)[2]'(by decide)).toNat : Int)) = false := beq_eq_false_iff_ne.2 he
          have HE := Lib.hid he
          clear he
          go_wp2
          go_quiet (fail)
          go_wp2
          go_roundw
          case rel => exact ⟨3, by omega, by go_num, HN, by obtain ⟨m, hm⟩ := hd2.out; exact ⟨m + nq, by rw [hm, World.drewN_drewN]⟩⟩
          case measure => simp [intOf]
    · have hke : k = 3 := by omega
      have hkk : wfOk s = false := by
        have h3 := hno.out
        rw [hke] at h3
        have a0 := h3 0 (by decide)
        have a1 := h3 1 (by decide)
        have a2 := h3 2 (by decide)
        have := markIdx_le (byteAt s 0)
        rw [HK.out, HB0.out, decide_eq_false (by omega)]; rfl
      have HR := Lib.hid (HNO.out hkk)
      have HKK := Lib.hid hkk
      clear hkk hke
      go_wp2
      exact bodyPost_ret (v := .tuple #[.agg #[.slice none 0 0, .int .i64 0], .bool false]) (by simp [results, Tryd.results10, go_sem, f0, f1, f2, f3]) rfl ⟨.slice none 0 0, by rw [HR.out.2, HKK.out], by rw [HR.out.1]; exact own_none _ _, (bwr.setCell (p := ⟨w.heap.size, 0, none⟩) (Nat.le_refl _) _).setCell (p := ⟨w.heap.size, 1, none⟩) (Nat.le_refl _) _⟩
end Go.Proofs.YtlpagnbfjechhaaDoor
