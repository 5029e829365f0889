/-
  Walk of the law FnOutlineBare.
-/
import Derived.Test.YtniemanapimjoaaDrawB
import Derived.Test.YtniemanapimjoaaObL
import Derived.Test.YtniemanapimjoaaBare
namespace Go.Proofs.Ytniemanapimjoaa
open Go.RowKit Go.Sort
set_option linter.unusedSimpArgs false
set_option linter.unusedVariables false

set_option maxRecDepth 100000 in
set_option maxHeartbeats 2000000 in
theorem walk_FnOutlineBare (r : Row UInt8) (w : World) (h : RowOk w byteC (fun _ => True) r) : Calls Try.prog 13 #[rowV r] w fun e w' => e = .returned (.bool true) ∧ Below w.heap.size w w' := by
  obtain ⟨A, c, l⟩ := r
  obtain ⟨hw, _, hc, hm⟩ := h
  simp only at hw hc hm
  have hm' : c ≤ 9223372036854775807 := hm
  show Calls Try.prog 13 #[.slice A l.length c] w _
  by_cases hl : (1048576 : Int) < l.length
  · go_enter Try.func13, Try.ntmps13
    go_wp2
    go_ret
    exact ⟨rfl, Below.refl _ _⟩
  go_enter Try.func13, Try.ntmps13
  go_wp2_with fail
  refine (spec_DrawOutlineBare l A c _ hw hc hm).mono ?_
  rintro e w1 ⟨A1, c1, ss, B1, d1, os, rfl, ⟨sg, so⟩, hok, hn8, ho8, b1⟩
  have hnm : ss.length ≤ maxLen := Nat.le_trans hn8 (by decide)
  have hom : os.length ≤ maxLen := Nat.le_trans ho8 (by decide)
  go_wp2_with fail
  refine (impl_OutlineBare ss os A1 B1 c1 d1 _ sg so hok hnm hom).mono ?_
  rintro e w2 ⟨rfl, b2⟩
  have sg := (sg.below b2).top
  have so := (so.below b2).top
  have b02 := bel_trans b1 b2
  go_wp2_with fail
  refine (spec_OutlineBare ss os A1 B1 c1 d1 _ sg so hok hnm hom).mono ?_
  rintro e w3 ⟨rfl, b3⟩
  have sg := (sg.below b3).top
  have so := (so.below b3).top
  have b03 := bel_trans b02 b3
  clear b1 b2 b02 b3
  cases hk : obOk ss os
  · generalize obOf ss os = out at *
    have hbn : (ByteArray.toList out != ByteArray.toList out) = false := by simp
    have hbe : (ByteArray.toList out == ByteArray.toList out) = true := by simp
    go_wp2
    go_ret
    exact ⟨rfl, b03⟩
  have HSZ := Lib.hid (ob_size hk)
  have HAT : Hid (∀ i, i < os.length → strokeOf ss (oneS (byteAt (obOf ss os) i)) = some (stkAt os i)) := fun i hi => (ob_at hk hi).2.2.2
  have HTU : Hid (∀ i, 0 < i → i < os.length → byteAt (obOf ss os) i ≠ byteAt (obOf ss os) (i - 1)) := fun i h0 hi => ob_turn hk h0 hi
  have HWD : Hid (0 < os.length → woOk ss (obOf ss os) = true ∧ woOf ss (obOf ss os) = os) := fun h0 => ob_word hk h0
  generalize obOf ss os = out at *
  have hsz : out.size = os.length := HSZ.out
  have hbn : (ByteArray.toList out != ByteArray.toList out) = false := by simp
  have hbe : (ByteArray.toList out == ByteArray.toList out) = true := by simp
  clear hk
  go_wp2
  go_loopw [9, 10] (fun tw i wr => tw = .bool false ∧ ∃ k : Nat, k ≤ out.size ∧ i = .int .i64 k ∧ Below w3.heap.size w3 wr) (fun _ i _ => out.size - (intOf i).toNat)
  case atStart => exact ⟨rfl, 0, Nat.zero_le _, rfl, Below.refl _ _⟩
  case round =>
    obtain ⟨rfl, k, hkl, rfl, hb⟩ := hrel
    by_cases hlt : k < out.size
    · have hkd : (k : Int) + 1 ≤ (out.size : Int) := by omega
      have hos : k < os.length := by omega
      have HY := Lib.hid (HAT.out k hos)
      obtain ⟨s, hs⟩ := get_lt hos
      have HSA := Lib.hid (stkAt_eq hs)
      obtain ⟨g, o, rfl, hg, _, _, e1, e2⟩ := (so.below hb).stk hs
      clear hs
      go_wp2_with fail
      refine (impl_SystemStroke ss (out.extract k (k + 1)) A1 c1 _ (sg.below hb).top hok hnm (by rw [extract_oneS out k hlt]; show 1 ≤ maxLen; decide)).mono ?_
      rintro e w5 ⟨rfl, b5⟩
      rw [extract_oneS out k hlt, HY.out, HSA.out]
      have hso : stkOr (some s) = s := rfl
      rw [hso]
      have bal := hb.trans (b5.mono hb.size)
      have b6 := bel_alloc (Below.refl w5.heap.size w5) (.cells #[.int .i64 s.1, .int .i64 s.2] 52)
      have hg5 := Nat.lt_of_lt_of_le hg b5.size
      have d2 := (b6.cell (p := ⟨g, o + k * 2, none⟩) hg5).trans ((b5.cell (p := ⟨g, o + k * 2, none⟩) hg).trans e1)
      have d3 := (b6.cell (p := ⟨g, o + k * 2 + 1, none⟩) hg5).trans ((b5.cell (p := ⟨g, o + k * 2 + 1, none⟩) hg).trans e2)
      have bal2 := bel_alloc bal (.cells #[.int .i64 s.1, .int .i64 s.2] 52)
      clear e1 e2 hso b5 b6 bal
      by_cases hk0 : k = 0
      · subst hk0
        simp only [Nat.zero_mul, Nat.add_zero] at d2 d3
        go_wp2
        go_quiet (fail)
        have bal3 := Below_drewN bal2 nq
        go_wp2
        go_quiet (fail)
        go_wp2
        go_roundw
        case rel => exact ⟨rfl, 1, by omega, by go_num, (by rw [← World.drewN_drewN]; exact Below_drewN bal3 nq)⟩
        case measure => simp [intOf]; omega
      · have hkp : (0 : Int) < (k : Int) := by omega
        have hkn : 0 < k := by omega
        have hk1 : 1 ≤ k := by omega
        have hkd0 : decide ((0 : Int) < (k : Int)) = true := decide_eq_true hkp
        have hkd1 : decide (0 < k) = true := decide_eq_true hkn
        have e3 : ((k : Int) - 1).toNat = k - 1 := by omega
        have e4 : (1 : Int) ≤ (k : Int) := by omega
        have e6 : IntKind.i64.wrap ((k : Int) - 1) = (k : Int) - 1 := IntWalk.i64_in _ (by have := hsz; omega)
        have e5 : (k : Int) - 1 < (out.size : Int) := by omega
        have e7 : (k : Int) - 1 < (os.length : Int) := by omega
        have e8 : k - 1 < os.length := by omega
        have hlt2 : k - 1 < out.size := by omega
        have i3 : (k : Int) < (out.size : Int) := by omega
        have hne : ((out[k].toNat : Int) == (out[k - 1].toNat : Int)) = false := by
          rw [beq_eq_false_iff_ne]
          intro e
          have h1 := HTU.out k (by omega) hos
          rw [← byteAt_get out k hlt, ← byteAt_get out (k - 1) hlt2] at h1
          exact h1 (UInt8.toNat_inj.1 (by omega))
        go_wp2
        go_quiet (fail)
        have bal3 := Below_drewN bal2 nq
        go_wp2
        go_quiet (fail)
        go_wp2
        go_roundw
        case rel => exact ⟨rfl, k + 1, by omega, by go_num, (by rw [← World.drewN_drewN]; exact Below_drewN bal3 nq)⟩
        case measure => simp [intOf]; omega
    · have sg := (sg.below hb).top
      have so := (so.below hb).top
      have b04 := bel_trans b03 hb
      have hsm : out.size ≤ maxLen := by rw [hsz]; exact hom
      go_wp2_with fail
      refine (impl_WordOutline ss out A1 c1 _ sg hok hnm hsm).mono ?_
      rintro e w5 ⟨v5, rfl, own5, b5⟩
      have so := (so.below b5).top
      have b05 := bel_trans b04 b5
      by_cases h0 : os.length = 0
      · have hoe : (ByteArray.toList out == []) = true := by
          have hz : out.data.toList = [] := List.eq_nil_of_length_eq_zero (by show out.size = 0; omega)
          rw [ByteArray.toList_eq, hz]; rfl
        obtain ⟨A5, c5, rfl, _, _, _⟩ := own5.form
        clear own5
        go_wp2
        go_ret
        exact ⟨rfl, b05⟩
      · obtain ⟨h1, h2⟩ := HWD.out (by omega)
        rw [h2] at own5
        rw [h1]
        have hoe : (ByteArray.toList out == []) = false := by
          rw [ByteArray.toList_eq, beq_eq_false_iff_ne]
          intro e
          have h5 : out.data.toList.length = out.size := rfl
          rw [e] at h5
          simp at h5
          omega
        obtain ⟨A5, c5, rfl, _, _, s5⟩ := own5.form
        have s5 := s5.mono (lo' := 0) (Nat.zero_le _) (Nat.le_refl _)
        clear own5 h1 h2
        go_wp2_with fail
        refine (stks_same os A5 B1 c5 d1 _ s5 so (Nat.le_trans ho8 (by decide))).mono ?_
        rintro e w6 ⟨rfl, b6⟩
        have b06 := bel_trans b05 b6
        go_wp2
        go_ret
        exact ⟨rfl, b06⟩
end Go.Proofs.Ytniemanapimjoaa
