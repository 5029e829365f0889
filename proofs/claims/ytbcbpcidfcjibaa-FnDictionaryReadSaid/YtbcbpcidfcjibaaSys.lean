/-
  Contracts of SystemValid (both texts) and signsOf.
-/
import Derived.Test.YtbcbpcidfcjibaaStks
import Derived.Test.YtbcbpcidfcjibaaWords2
import Derived.Test.YtbcbpcidfcjibaaMaps
import Derived.Test.YtbcbpcidfcjibaaMem2
import Derived.Test.YtbcbpcidfcjibaaStrs
namespace Go.Proofs.Ytbcbpcidfcjibaa
open Go.RowKit Go.Sort
set_option linter.unusedSimpArgs false
set_option linter.unusedVariables false

def sgnAt (ss : List Sgn) (k : Nat) : Sgn := ss.getD k (ByteArray.empty, (0, 0))
theorem sgnAt_eq {ss : List Sgn} {k : Nat} {s : Sgn} (h : ss[k]? = some s) : sgnAt ss k = s := by simp [sgnAt, List.getD, h]
/-- a text that is one consonant -/
def consOk (s : Str) : Bool := decide (s.size = 1) && letterOk (byteAt s 0) && !vowel (byteAt s 0)
def sgnOk (x : Sgn) : Bool := consOk x.1 && stOk x.2
def sgnNew (ss : List Sgn) (x : Sgn) (k : Nat) : Bool := allTo (fun j => !(decide ((sgnAt ss j).1 = x.1)) && !(decide ((sgnAt ss j).2 = x.2))) k
def sysAt (ss : List Sgn) (k : Nat) : Bool := sgnOk (sgnAt ss k) && sgnNew ss (sgnAt ss k) k
def sysOk (ss : List Sgn) : Bool := decide (ss.length ≤ 21) && allTo (sysAt ss) ss.length
def OkSgns (ss : List Sgn) : Prop := ∀ x ∈ ss, x.1.size ≤ maxLen
theorem OkSgns.at_ {ss : List Sgn} (h : OkSgns ss) {k : Nat} {s : Sgn} (hs : ss[k]? = some s) : s.1.size ≤ maxLen := h s (List.mem_of_getElem? hs)

theorem Seg.sgn {w : World} {lo hi : Nat} {A : Option Addr} {ss : List Sgn} {k : Nat} {s : Sgn} (h : Seg w lo hi A (flat sgnC ss)) (hk : ss[k]? = some s) :
    ∃ g o, A = some ⟨g, o, none⟩ ∧ g < w.heap.size ∧ lo ≤ g ∧ g < hi ∧ w.cell? ⟨g, o + k * 3, none⟩ = some (.string s.1) ∧ w.cell? ⟨g, o + k * 3 + 1, none⟩ = some (.int .i64 s.2.1) ∧ w.cell? ⟨g, o + k * 3 + 2, none⟩ = some (.int .i64 s.2.2) := by
  have h0 := flat_get sgnC_len hk (j := 0) (by decide)
  have h1 := flat_get sgnC_len hk (j := 1) (by decide)
  have h2 := flat_get sgnC_len hk (j := 2) (by decide)
  rcases h with h | ⟨g, o, rfl, a, b, c, d⟩
  · rw [h] at h0; simp [sgnC] at h0
  · exact ⟨g, o, rfl, c, a, b, by simpa [sgnC] using d _ _ h0, by simpa [sgnC, Nat.add_assoc] using d _ _ h1, by simpa [sgnC, Nat.add_assoc] using d _ _ h2⟩

theorem impl_isConsonant (c : UInt8) (w : World) :
    Calls Try.prog 41 #[.int .u8 c.toNat] w fun e w' => e = .returned (.bool (letterOk c && !vowel c)) ∧ w = w' := by
  by_cases h1 : 97 ≤ (c.toNat : Int)
  · by_cases h2 : (c.toNat : Int) ≤ 122
    · have hl : letterOk c = true := by simp [letterOk]; omega
      go_enter Try.func41, Try.ntmps41
      go_wp2_with (go_at_call 25; refine (impl_isVowel _ _).mono ?_; rintro e w' ⟨rfl, rfl⟩)
      go_ret
      exact ⟨ret_bool (by simp [hl]), rfl⟩
    · have hl : letterOk c = false := by simp [letterOk]; omega
      have hd : decide ((c.toNat : Int) ≤ 122) = false := by simp; omega
      have hd2 : decide (c.toNat ≤ 122) = false := by simp; omega
      go_enter Try.func41, Try.ntmps41
      go_wp2
      go_ret
      exact ⟨ret_bool (by simp [hl]), rfl⟩
  · have hl : letterOk c = false := by simp [letterOk]; omega
    have hd : decide (97 ≤ (c.toNat : Int)) = false := by simp; omega
    have hd2 : decide (97 ≤ c.toNat) = false := by simp; omega
    go_enter Try.func41, Try.ntmps41
    go_wp2
    go_ret
    exact ⟨ret_bool (by simp [hl]), rfl⟩

theorem wordOk_one {s : Str} (h : s.size = 1) : wordOk s = letterOk (byteAt s 0) := by
  have e : s.data.toList = [byteAt s 0] := by
    have hl : s.data.toList.length = 1 := by simpa using h
    match hd : s.data.toList, hl with
    | [c], _ => simp [byteAt, hd]
  rw [wordOk, e, h]
  simp [lettersOk]
theorem sgnNew_not {ss : List Sgn} {x s' : Sgn} {j k : Nat} (hs : ss[j]? = some s') (hj : j < k) (h : s'.1 = x.1 ∨ s'.2 = x.2) : sgnNew ss x k = false := by
  refine allTo_not (k := j) ?_ hj
  rw [sgnAt_eq hs]
  rcases h with h | h <;> simp [h]
theorem sgnNew_step {ss : List Sgn} {x s' : Sgn} {j : Nat} (hs : ss[j]? = some s') (h0 : sgnNew ss x j = true) (h1 : s'.1 ≠ x.1) (h2 : s'.2 ≠ x.2) : sgnNew ss x (j + 1) = true := by
  refine allTo_step h0 ?_
  rw [sgnAt_eq hs]
  simp [h1, h2]

set_option maxHeartbeats 1000000 in
theorem spec_SystemValid (ss : List Sgn) (A : Option Addr) (c : Nat) (w : World) (hw : Seg w 0 w.heap.size A (flat sgnC ss)) (ho : OkSgns ss) (hn : ss.length ≤ maxLen) :
    Calls Try.prog 30 #[.slice A ss.length c] w fun e w' => e = .returned (.bool (sysOk ss)) ∧ Below w.heap.size w w' := by
  have hn' : ss.length ≤ 9223372036854775807 := hn
  go_enter Try.func30, Try.ntmps30
  go_wp2
  go_loopw [3, 4, 5] (fun i _ _ wr => ∃ k : Nat, k ≤ ss.length ∧ i = .int .i64 k ∧ Hid (allTo (sysAt ss) k = true) ∧ Below w.heap.size w wr) (fun i _ _ _ => ss.length - (intOf i).toNat)
  case atStart => exact ⟨0, Nat.zero_le _, rfl, rfl, Below.refl _ _⟩
  case round =>
    obtain ⟨k, hk, rfl, hl, hb⟩ := hrel
    by_cases hlt : k < ss.length
    · obtain ⟨x, hs⟩ := get_lt hlt
      have HS := Lib.hid (sgnAt_eq hs)
      have hsm := ho.at_ hs
      have hsm' : x.1.size ≤ 9223372036854775807 := hsm
      have hwr := hw.below hb
      obtain ⟨g, o, rfl, hg, _, hgw, hc1, hc2, hc3⟩ := hwr.sgn hs
      have hbad : sgnOk x = false → sysOk ss = false := fun h => by
        rw [sysOk, allTo_not (k := k) (by rw [sysAt, HS.out, h]; rfl) hlt, Bool.and_false]
      have HBAD := Lib.hid hbad
      have HHS := Lib.hid hs
      have hkd : decide ((k : Int) < (ss.length : Int)) = true := by simp; omega
      have hkdn : decide (k < ss.length) = true := by simp; omega
      clear hbad hs
      by_cases h1 : x.1.size = 1
      · have z1 : ((x.1.size : Int) != 1) = false := by rw [bne_eq_false_iff_eq]; omega
        have W1 := Lib.hid (wordOk_one h1)
        have h1' : 0 < x.1.size := by omega
        have HB0 := Lib.hid (byteAt_get x.1 0 h1')
        have H1 := Lib.hid h1
        clear h1
        cases hwd : wordOk x.1
        · have HO : Hid (sysOk ss = false) := HBAD.out (by rw [sgnOk, consOk, ← W1.out, hwd]; simp)
          go_wp2_with (go_at_call 31; refine (spec_WordValid _ _ hsm).mono ?_; rintro e w' ⟨rfl, rfl⟩; rw [hwd])
          go_ret
          exact ⟨ret_bool HO.out.symm, bel_alloc hb _⟩
        cases hvw : vowel (byteAt x.1 0)
        · cases hst : stOk x.2
          · have HO : Hid (sysOk ss = false) := HBAD.out (by rw [sgnOk, hst, Bool.and_false])
            go_wp2_with (first
              | (go_at_call 31; refine (spec_WordValid _ _ hsm).mono ?_; rintro e w' ⟨rfl, rfl⟩; rw [hwd])
              | (go_at_call 47; refine (spec_l2Vowel_of _ false _ (by rw [HB0.out]; exact hvw)).mono ?_; rintro e w' ⟨rfl, rfl⟩)
              | (go_at_call 38; refine (spec_StrokeValid_of x.2 false hst _).mono ?_; rintro e w1 ⟨rfl, b1⟩))
            have bal := bel_trans (bel_alloc hb _) b1
            go_wp2
            go_ret
            exact ⟨ret_bool HO.out.symm, bal⟩
          · have HK : Hid (sgnOk x = true) := by rw [Hid, sgnOk, consOk, ← W1.out, hwd, hvw, hst, decide_eq_true H1.out]; rfl
            go_wp2_with (first
              | (go_at_call 31; refine (spec_WordValid _ _ hsm).mono ?_; rintro e w' ⟨rfl, rfl⟩; rw [hwd])
              | (go_at_call 47; refine (spec_l2Vowel_of _ false _ (by rw [HB0.out]; exact hvw)).mono ?_; rintro e w' ⟨rfl, rfl⟩)
              | (go_at_call 38; refine (spec_StrokeValid_of x.2 true hst _).mono ?_; rintro e w1 ⟨rfl, b1⟩))
            have bal := bel_trans (bel_alloc hb _) b1
            have k0 : w1.cell? ⟨wr.heap.size, 0, none⟩ = some (.string x.1) := box_later b1 0
            have k1 : w1.cell? ⟨wr.heap.size, 1, none⟩ = some (.int .i64 x.2.1) := box_later b1 1
            have k2 : w1.cell? ⟨wr.heap.size, 2, none⟩ = some (.int .i64 x.2.2) := box_later b1 2
            have hw1 := hw.below bal
            have HW1 := Lib.hid hw1
            have hbs : wr.heap.size < w1.heap.size := by have := b1.size; simp at this; omega
            clear hc1 hc2 hc3 hwr hw1 b1 hg
            generalize wr.heap.size = bx at *
            have HB := Lib.hid bal
            clear bal hb
            go_wp2
            go_loopw [5] (fun i wi => ∃ j : Nat, j ≤ k ∧ i = .int .i64 j ∧ Hid (sgnNew ss x j = true) ∧ Hid (∃ n, wi = w1.drewN n)) (fun i _ => k - (intOf i).toNat)
            case atStart => exact ⟨0, Nat.zero_le _, rfl, rfl, 0, rfl⟩
            case round =>
              obtain ⟨j, hj, rfl, hnew, hd⟩ := hrel
              by_cases hjl : j < k
              · obtain ⟨y, hy⟩ := get_lt (show j < ss.length by omega)
                obtain ⟨g', o', e', _, _, _, d1, d2, d3⟩ := HW1.out.sgn hy
                injection e' with e'
                injection e' with e1 e2
                subst e1 e2
                obtain ⟨m, hm⟩ := hd.out
                have d1' : wr.cell? ⟨g, o + j * 3, none⟩ = some (.string y.1) := by rw [hm]; exact d1
                have d2' : wr.cell? ⟨g, o + j * 3 + 1, none⟩ = some (.int .i64 y.2.1) := by rw [hm]; exact d2
                have d3' : wr.cell? ⟨g, o + j * 3 + 2, none⟩ = some (.int .i64 y.2.2) := by rw [hm]; exact d3
                have k0' : wr.cell? ⟨bx, 0, none⟩ = some (.string x.1) := by rw [hm]; exact k0
                have k1' : wr.cell? ⟨bx, 1, none⟩ = some (.int .i64 x.2.1) := by rw [hm]; exact k1
                have k2' : wr.cell? ⟨bx, 2, none⟩ = some (.int .i64 x.2.2) := by rw [hm]; exact k2
                have hjd : decide ((j : Int) < (k : Int)) = true := by simp; omega
                have hjl2 : j < ss.length := by omega
                clear d1 d2 d3 k0 k1 k2 hm
                by_cases he : y.1 = x.1
                · have HO : Hid (sysOk ss = false) := by
                    rw [Hid, sysOk, allTo_not (k := k) (by rw [sysAt, HS.out, sgnNew_not hy hjl (.inl he), Bool.and_false]) hlt, Bool.and_false]
                  rw [he] at d1'
                  clear he hy
                  go_wp2
                  go_quiet (fail)
                  go_wp2
                  go_ret
                  exact ⟨ret_bool HO.out.symm, by obtain ⟨m, hm⟩ := hd.out; rw [hm, World.drewN_drewN]; exact Below_drewN HB.out _⟩
                have hxe := str_ne he
                by_cases he2 : y.2 = x.2
                · have HO : Hid (sysOk ss = false) := by
                    rw [Hid, sysOk, allTo_not (k := k) (by rw [sysAt, HS.out, sgnNew_not hy hjl (.inr he2), Bool.and_false]) hlt, Bool.and_false]
                  rw [he2] at d2' d3'
                  have HE := Lib.hid he
                  clear he he2 hy
                  go_wp2
                  go_quiet (fail)
                  go_wp2
                  go_ret
                  exact ⟨ret_bool HO.out.symm, by obtain ⟨m, hm⟩ := hd.out; rw [hm, World.drewN_drewN]; exact Below_drewN HB.out _⟩
                have HN := Lib.hid (sgnNew_step hy hnew.out he he2)
                have HE := Lib.hid he
                obtain ⟨yl, ya, yb⟩ := y
                obtain ⟨xl, xa, xb⟩ := x
                simp only at d1' d2' d3' k0' k1' k2' hxe he2 hsm hsm'
                clear he hy
                by_cases hda : ya = xa
                · have hdb : ¬ yb = xb := fun h => he2 (by rw [hda, h])
                  subst hda
                  have HE2 := Lib.hid he2
                  clear he2
                  go_wp2
                  go_quiet (fail)
                  go_wp2
                  go_roundw
                  case rel => exact ⟨j + 1, by omega, by go_num, HN, by obtain ⟨m, hm⟩ := hd.out; exact ⟨m + nq, by rw [hm, World.drewN_drewN]⟩⟩
                  case measure => simp [intOf]; omega
                · have HE2 := Lib.hid he2
                  clear he2
                  go_wp2
                  go_quiet (fail)
                  go_wp2
                  go_roundw
                  case rel => exact ⟨j + 1, by omega, by go_num, HN, by obtain ⟨m, hm⟩ := hd.out; exact ⟨m + nq, by rw [hm, World.drewN_drewN]⟩⟩
                  case measure => simp [intOf]; omega
              · obtain rfl : j = k := by omega
                have HN : Hid (allTo (sysAt ss) (j + 1) = true) := allTo_step hl.out (by rw [sysAt, HS.out, HK.out, hnew.out]; rfl)
                clear k0 k1 k2
                go_wp2
                go_roundw
                case rel => exact ⟨j + 1, by omega, by go_num, HN, by obtain ⟨m, hm⟩ := hd.out; rw [hm]; exact Below_drewN HB.out _⟩
                case measure => simp [intOf]; omega
        · have HO : Hid (sysOk ss = false) := HBAD.out (by rw [sgnOk, consOk, hvw]; simp)
          go_wp2_with (first
            | (go_at_call 31; refine (spec_WordValid _ _ hsm).mono ?_; rintro e w' ⟨rfl, rfl⟩; rw [hwd])
            | (go_at_call 47; refine (spec_l2Vowel_of _ true _ (by rw [HB0.out]; exact hvw)).mono ?_; rintro e w' ⟨rfl, rfl⟩))
          go_ret
          exact ⟨ret_bool HO.out.symm, bel_alloc hb _⟩
      · have z1 : ((x.1.size : Int) != 1) = true := by rw [bne_iff_ne]; omega
        have HO : Hid (sysOk ss = false) := HBAD.out (by rw [sgnOk, consOk, decide_eq_false h1]; simp)
        have H1 := Lib.hid h1
        clear h1
        go_wp2
        go_ret
        exact ⟨ret_bool HO.out.symm, bel_alloc hb _⟩
    · go_wp2
      go_ret
      obtain rfl : k = ss.length := by omega
      exact ⟨ret_bool (by rw [sysOk, hl.out, Bool.and_true, Bool.eq_iff_iff]; simp; omega), hb⟩
end Go.Proofs.Ytbcbpcidfcjibaa
