/-
  Walk of the law FnExactDictionaryClashes.
-/
import Derived.Test.YtoidjdbhdkbfhaaMrk2
import Derived.Test.YtoidjdbhdkbfhaaClash
namespace Go.Proofs.Ytoidjdbhdkbfhaa
open Go.RowKit Go.Sort
set_option linter.unusedSimpArgs false
set_option linter.unusedVariables false

theorem walk_FnExactDictionaryClashes (r0 : Row Sgn) (r1 : Row Str) (w : World) (h0 : RowOk w sgnC SgnOk r0) (h1 : RowOk w strC StrOk r1) : Calls Try.prog 3 #[rowV r0, rowV r1] w fun e w' => e = .returned (.bool true) ∧ Below w.heap.size w w' := by
  obtain ⟨A0, c0, x0, e0, L0, o0, k0, m0⟩ := row_sgns h0
  rw [e0]
  have n0 : x0.length ≤ maxLen := Nat.le_trans k0 m0
  clear e0 h0
  obtain ⟨A1, c1, x1, e1, L1, o1, k1, m1⟩ := row_strs h1
  rw [e1]
  have n1 : x1.length ≤ maxLen := Nat.le_trans k1 m1
  clear e1 h1
  go_enter Try.func3, Try.ntmps3
  go_wp2_with fail
  refine (sgns_szB x0 A0 c0 _ _ L0 o0 n0 (by decide) (by decide)).mono ?_
  rintro e w1 ⟨⟨z0, rfl, hz0⟩, b1⟩
  have L0 := (L0.below b1).top
  have L1 := (L1.below b1).top
  rcases hz0 with rfl | ⟨za0, zb0, zc0⟩
  · go_wp2
    go_ret
    exact ⟨rfl, b1⟩
  have q0 : x0.length ≤ 1048576 := by omega
  go_wp2_with fail
  refine (strs_sz x1 A1 c1 _ _ L1 o1 n1 za0 (by omega)).mono ?_
  rintro e w' ⟨⟨z1, rfl, hz1⟩, rfl⟩
  rcases hz1 with rfl | ⟨za1, zb1, zc1⟩
  · go_wp2
    go_ret
    exact ⟨rfl, b1⟩
  have q1 : x1.length ≤ 1048576 := by omega
  go_wp2_with fail
  refine (sgns_to x0 A0 c0 _ L0 o0 q0).mono ?_
  rintro e w2 ⟨U0, rfl, SU0, b2⟩
  have L0 := (L0.below b2).top
  have L1 := (L1.below b2).top
  have SU0 := SU0.mono (Nat.zero_le _) (Nat.le_refl _)
  go_wp2_with fail
  refine (strs_to x1 A1 c1 _ L1 o1 q1).mono ?_
  rintro e w3 ⟨U1, rfl, SU1, b3⟩
  have L0 := (L0.below b3).top
  have L1 := (L1.below b3).top
  have SU0 := (SU0.below b3).top
  have SU1 := SU1.mono (Nat.zero_le _) (Nat.le_refl _)
  go_wp2_with fail
  refine (spec_DictionaryClashes x0 x1 U0 U1 _ _ _ SU0 SU1 o0 o1 n0 n1).mono ?_
  rintro e w4 ⟨rfl, b4⟩
  have L0 := (L0.below b4).top
  have L1 := (L1.below b4).top
  have SU0 := (SU0.below b4).top
  have SU1 := (SU1.below b4).top
  go_wp2_with fail
  refine (sgns_to x0 A0 c0 _ L0 o0 q0).mono ?_
  rintro e w5 ⟨V0, rfl, SV0, b5⟩
  have L0 := (L0.below b5).top
  have L1 := (L1.below b5).top
  have SV0 := SV0.mono (Nat.zero_le _) (Nat.le_refl _)
  go_wp2_with fail
  refine (strs_to x1 A1 c1 _ L1 o1 q1).mono ?_
  rintro e w6 ⟨V1, rfl, SV1, b6⟩
  have L0 := (L0.below b6).top
  have L1 := (L1.below b6).top
  have SV0 := (SV0.below b6).top
  have SV1 := SV1.mono (Nat.zero_le _) (Nat.le_refl _)
  go_wp2_with fail
  refine (impl_DictionaryClashes x0 x1 V0 V1 _ _ _ SV0 SV1 o0 o1 n0 n1 (Nat.le_refl _) (Nat.le_trans q1 (by decide))).mono ?_
  rintro e w7 ⟨rfl, b7⟩
  have L0 := (L0.below b7).top
  have L1 := (L1.below b7).top
  have SV0 := (SV0.below b7).top
  have SV1 := (SV1.below b7).top
  go_wp2_with fail
  refine (sgns_to x0 A0 c0 _ L0 o0 q0).mono ?_
  rintro e w8 ⟨T0, rfl, ST0, b8⟩
  have L0 := (L0.below b8).top
  have L1 := (L1.below b8).top
  have SV0 := (SV0.below b8).top
  have SV1 := (SV1.below b8).top
  have ST0 := ST0.mono (Nat.zero_le _) (Nat.le_refl _)
  go_wp2_with fail
  refine (sgns_eq x0 V0 T0 _ _ _ SV0 ST0 q0).mono ?_
  rintro e w9 ⟨rfl, b9⟩
  have L0 := (L0.below b9).top
  have L1 := (L1.below b9).top
  have SV0 := (SV0.below b9).top
  have SV1 := (SV1.below b9).top
  have ST0 := (ST0.below b9).top
  go_wp2_with fail
  refine (strs_to x1 A1 c1 _ L1 o1 q1).mono ?_
  rintro e w10 ⟨T1, rfl, ST1, b10⟩
  have L0 := (L0.below b10).top
  have L1 := (L1.below b10).top
  have SV0 := (SV0.below b10).top
  have SV1 := (SV1.below b10).top
  have ST1 := ST1.mono (Nat.zero_le _) (Nat.le_refl _)
  go_wp2_with fail
  refine (strs_eq x1 V1 T1 _ _ _ SV1 ST1 q1).mono ?_
  rintro e w11 ⟨rfl, b11⟩
  have L0 := (L0.below b11).top
  have L1 := (L1.below b11).top
  have SV0 := (SV0.below b11).top
  have SV1 := (SV1.below b11).top
  have ST1 := (ST1.below b11).top
  have ball := bel_trans b1 (bel_trans b2 (bel_trans b3 (bel_trans b4 (bel_trans b5 (bel_trans b6 (bel_trans b7 (bel_trans b8 (bel_trans b9 (bel_trans b10 (b11))))))))))
  go_wp2
  go_ret
  exact ⟨rfl, ball⟩

end Go.Proofs.Ytoidjdbhdkbfhaa
