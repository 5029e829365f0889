/-
  Walk of the law FnOutlineMany.
-/
import Derived.Test.YtllhnopmkeilfaaChain
import Derived.Test.YtllhnopmkeilfaaOpen
import Derived.Test.YtllhnopmkeilfaaDraw
import Derived.Test.YtllhnopmkeilfaaWords3
namespace Go.Proofs.Ytllhnopmkeilfaa
open Go.RowKit
set_option linter.unusedSimpArgs false
set_option linter.unusedVariables false

theorem bel_grown {w w1 w2 : World} {g : Nat} (h1 : Below w.heap.size w w1) (hg : w1.grownBy w2 (some g)) (h : w.heap.size ≤ g) : Below w.heap.size w w2 :=
  h1.grown hg h1.size fun k hk => by injection hk with hk; omega

theorem spec_DrawOutlineMany (l : List UInt8) (A : Option Addr) (c : Nat) (w : World) (hw : Seg w 0 w.heap.size A (flat byteC l)) (hc : l.length ≤ c) (hm : c ≤ maxLen) :
    Calls Try.prog 42 #[.slice A l.length c] w fun e w' => (∃ x : Int, e = .returned (.int .i64 x) ∧ -1 ≤ x ∧ x ≤ 9) ∧ Below w.heap.size w w' := by
  go_enter Try.func42, Try.ntmps42
  go_wp2_with fail
  refine (spec_l6Open l A c _ hw hc hm).mono ?_
  rintro e w1 ⟨rfl, hr, hb, hsz⟩
  have HZ := Lib.hid hsz
  clear hsz
  go_wp2_with fail
  refine (spec_pick _ 0 _ _ hr (by decide) (by decide) (by decide)).mono ?_
  rintro e w2 ⟨x, rfl, h0, h1, hr2, hg, hsz2⟩
  have hb2 := bel_grown hb hg (Nat.le_refl _)
  clear hsz2
  go_wp2
  go_ret
  exact ⟨⟨x - 1, rfl, by omega, by omega⟩, hb2⟩

def meets (d : Int) : Nat → Int
  | 0 => 0
  | e + 1 => meets d e + if ((e : Int) - d) % 4 = 0 then 0 else 9
theorem meets_le (d : Int) (e : Nat) : 0 ≤ meets d e ∧ meets d e ≤ 9 * e := by
  induction e with
  | zero => simp [meets]
  | succ e ih => simp only [meets]; split <;> omega
theorem meets_all (d : Nat) (h : d < 8) : meets d 8 = 54 := by
  have : ∀ d : Fin 8, meets (d.1 : Int) 8 = 54 := by decide
  exact this ⟨d, h⟩
theorem two_ok (d e : Nat) (hd : d < 8) (he : e < 8) : outOk [((d : Int), 1), ((e : Int), 1)] = !decide (((e : Int) - d) % 4 = 0) := by
  have : ∀ d e : Fin 8, outOk [((d.1 : Int), 1), ((e.1 : Int), 1)] = !decide (((e.1 : Int) - d.1) % 4 = 0) := by decide
  exact this ⟨d, hd⟩ ⟨e, he⟩
theorem many_bounds (n : Int) (h0 : 1 < n) (h1 : n ≤ 8) : 0 ≤ manyOf n ∧ manyOf n ≤ 100000000000 ∧ manyOf (n - 1) * 18 = manyOf n ∧ 0 ≤ manyOf (n - 1) ∧ manyOf (n - 1) ≤ 100000000000 := by
  have : ∀ n : Fin 9, 1 < n.1 → 0 ≤ manyOf (n.1 : Int) ∧ manyOf (n.1 : Int) ≤ 100000000000 ∧ manyOf ((n.1 : Int) - 1) * 18 = manyOf (n.1 : Int) ∧ 0 ≤ manyOf ((n.1 : Int) - 1) ∧ manyOf ((n.1 : Int) - 1) ≤ 100000000000 := by decide
  obtain ⟨k, rfl⟩ := Int.eq_ofNat_of_zero_le (show 0 ≤ n by omega)
  exact this ⟨k, by omega⟩ (show 1 < k by omega)

theorem walk_FnOutlineMany (r : Row UInt8) (w : World) (h : RowOk w byteC (fun _ => True) r) : Calls Try.prog 13 #[rowV r] w fun e w' => e = .returned (.bool true) ∧ Below w.heap.size w w' := by
  obtain ⟨A, c, l⟩ := r
  obtain ⟨hw, _, hc, hm⟩ := h
  simp only at hw hc hm
  have hm' : c ≤ 9223372036854775807 := hm
  show Calls Try.prog 13 #[.slice A l.length c] w _
  by_cases hl : (1048576 : Int) < l.length
  · go_enter Try.func13, Try.ntmps13
    go_wp2
    go_ret
    exact ⟨rfl, Below.refl _ _⟩
  go_enter Try.func13, Try.ntmps13
  go_wp2_with fail
  refine (spec_DrawOutlineMany l A c _ hw hc hm).mono ?_
  rintro e w1 ⟨⟨x, rfl, hx0, hx1⟩, hb⟩
  by_cases h1 : x < 0 ∨ 8 < x
  · have hv : manyOf x = -1 := by rw [manyOf, if_neg (by omega)]
    clear h1
    go_wp2_with (first | (go_at_call 20; refine (spec_OutlineMany _ _).mono ?_; rintro e w' ⟨rfl, rfl⟩; rw [hv]) | (go_at_call 21; refine (impl_OutlineMany _ _).mono ?_; rintro e w' ⟨rfl, rfl⟩; rw [hv]))
    go_ret
    exact ⟨rfl, hb⟩
  by_cases h2 : x = 0
  · subst h2
    clear h1
    have hv : manyOf 0 = 1 := rfl
    go_wp2_with (first | (go_at_call 20; refine (spec_OutlineMany _ _).mono ?_; rintro e w' ⟨rfl, rfl⟩; rw [hv]) | (go_at_call 21; refine (impl_OutlineMany _ _).mono ?_; rintro e w' ⟨rfl, rfl⟩; rw [hv]))
    go_ret
    exact ⟨rfl, hb⟩
  by_cases h3 : x = 1
  · subst h3
    clear h1 h2
    have hv : manyOf 1 = 24 := rfl
    go_wp2_with (first | (go_at_call 20; refine (spec_OutlineMany _ _).mono ?_; rintro e w' ⟨rfl, rfl⟩; rw [hv]) | (go_at_call 21; refine (impl_OutlineMany _ _).mono ?_; rintro e w' ⟨rfl, rfl⟩; rw [hv]))
    go_ret
    exact ⟨rfl, hb⟩
  obtain ⟨m0, m1, m2, m3, m4⟩ := many_bounds x (by omega) (by omega)
  have z0 : (x == 0) = false := by simp [h2]
  have z1 : (x == 1) = false := by simp [h3]
  have z2 : 1 < x := by omega
  generalize hu : manyOf x = u at *
  generalize hu' : manyOf (x - 1) = u' at *
  have HU := Lib.hid hu
  have HU' := Lib.hid hu'
  have HM := Lib.hid m2
  have z3 : decide (u < 0) = false := by simp; omega
  clear hu hu' m2 h1 h2 h3
  go_wp2_with (first | (go_at_call 20; refine (spec_OutlineMany _ _).mono ?_; rintro e w' ⟨rfl, rfl⟩; rw [HU.out]) | (go_at_call 21; refine (impl_OutlineMany _ _).mono ?_; rintro e w' ⟨rfl, rfl⟩; rw [HU.out]))
  go_loopw [6, 7, 8] (fun m d _ wr => ∃ k : Nat, k ≤ 8 ∧ d = .int .i64 k ∧ m = .int .i64 (54 * (k : Int)) ∧ Below w.heap.size w wr) (fun _ d _ _ => 8 - (intOf d).toNat)
  case atStart => exact ⟨0, by decide, rfl, rfl, hb⟩
  case round =>
    obtain ⟨k, hk, rfl, rfl, hbr⟩ := hrel
    by_cases hlt : k < 8
    · have hd8 : decide ((k : Int) < 8) = true := by simp; omega
      go_wp2
      go_loopw [6, 8] (fun m e wr => ∃ j : Nat, j ≤ 8 ∧ e = .int .i64 j ∧ m = .int .i64 (54 * (k : Int) + meets k j) ∧ Below w.heap.size w wr) (fun _ e _ => 8 - (intOf e).toNat)
      case atStart => exact ⟨0, by decide, rfl, by simp [meets], hbr⟩
      case round =>
        obtain ⟨j, hj, rfl, rfl, hbi⟩ := hrel
        have hml := meets_le k j
        by_cases hjl : j < 8
        · have hseg : Seg (wr.alloc (.cells #[.int .i64 k, .int .i64 1, .int .i64 j, .int .i64 1] 26)) 0 (wr.alloc (.cells #[.int .i64 k, .int .i64 1, .int .i64 j, .int .i64 1] 26)).heap.size (some ⟨wr.heap.size, 0, none⟩) (flat stkC [((k : Int), 1), ((j : Int), 1)]) :=
            (Seg.lit wr #[.int .i64 k, .int .i64 1, .int .i64 j, .int .i64 1] 26).mono (Nat.zero_le _) (Nat.le_refl _)
          have H2 := Lib.hid (two_ok k j hlt hjl)
          go_wp2_with fail
          refine (impl_OutlineValid [((k : Int), 1), ((j : Int), 1)] _ 2 _ hseg (by simp [maxLen])).mono ?_
          rintro e w2 ⟨rfl, hb2⟩
          have hb4 := bel_trans (bel_alloc hbi _) hb2
          clear hseg hb2
          cases hz : decide (((j : Int) - (k : Int)) % 4 = 0)
          · have HM2 : Hid (meets k (j + 1) = meets k j + 9) := by simp at hz; simp [Hid, meets, hz]
            rw [H2.out, hz]
            go_wp2
            go_roundw
            case rel => exact ⟨j + 1, by omega, by go_num, by rw [HM2.out]; go_num, hb4⟩
            case measure => simp [intOf]; omega
          · have HM2 : Hid (meets k (j + 1) = meets k j) := by simp at hz; simp [Hid, meets, hz]
            rw [H2.out, hz]
            go_wp2
            go_roundw
            case rel => exact ⟨j + 1, by omega, by go_num, by rw [HM2.out], hb4⟩
            case measure => simp [intOf]; omega
        · obtain rfl : j = 8 := by omega
          have HA := Lib.hid (meets_all k hlt)
          go_wp2
          go_roundw
          case rel => exact ⟨k + 1, by omega, by go_num, by rw [HA.out]; go_num, hbi⟩
          case measure => simp [intOf]; omega
    · obtain rfl : k = 8 := by omega
      have hv2 : Hid (manyOf 2 = 432) := rfl
      have z5 : ((u' * 18) == u) = true := by rw [HM.out]; simp
      go_wp2_with fail
      refine (impl_OutlineMany _ _).mono ?_
      rintro e w' ⟨rfl, rfl⟩
      rw [HU'.out]
      go_wp2_with fail
      refine (impl_OutlineMany _ _).mono ?_
      rintro e w' ⟨rfl, rfl⟩
      rw [hv2.out]
      go_wp2
      go_ret
      exact ⟨rfl, hbr⟩
end Go.Proofs.Ytllhnopmkeilfaa
