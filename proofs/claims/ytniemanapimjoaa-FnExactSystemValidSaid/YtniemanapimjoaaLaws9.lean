/-
  Walk of the law FnExactSystemValid.
-/
import Derived.Test.YtniemanapimjoaaKindSgn
import Derived.Test.YtniemanapimjoaaSigns
namespace Go.Proofs.Ytniemanapimjoaa
open Go.RowKit
set_option linter.unusedSimpArgs false
set_option linter.unusedVariables false

theorem walk_FnExactSystemValid (r0 : Row Sgn) (w : World) (h0 : RowOk w sgnC SgnOk r0) : Calls Try.prog 5 #[rowV r0] w fun e w' => e = .returned (.bool true) ∧ Below w.heap.size w w' := by
  obtain ⟨A0, c0, x0, e0, L0, o0, k0, m0⟩ := row_sgns h0
  rw [e0]
  have n0 : x0.length ≤ maxLen := Nat.le_trans k0 m0
  clear e0 h0
  go_enter Try.func5, Try.ntmps5
  go_wp2_with fail
  refine (sgns_szB x0 A0 c0 _ _ L0 o0 n0 (by decide) (by decide)).mono ?_
  rintro e w1 ⟨⟨z0, rfl, hz0⟩, b1⟩
  have L0 := (L0.below b1).top
  rcases hz0 with rfl | ⟨za0, zb0, zc0⟩
  · go_wp2
    go_ret
    exact ⟨rfl, b1⟩
  have q0 : x0.length ≤ 1048576 := by omega
  go_wp2_with fail
  refine (sgns_to x0 A0 c0 _ L0 o0 q0).mono ?_
  rintro e w2 ⟨U0, rfl, SU0, b2⟩
  have L0 := (L0.below b2).top
  have SU0 := SU0.mono (Nat.zero_le _) (Nat.le_refl _)
  go_wp2_with fail
  refine (spec_SystemValid x0 U0 _ _ SU0 o0 n0).mono ?_
  rintro e w3 ⟨rfl, b3⟩
  have L0 := (L0.below b3).top
  have SU0 := (SU0.below b3).top
  go_wp2_with fail
  refine (sgns_to x0 A0 c0 _ L0 o0 q0).mono ?_
  rintro e w4 ⟨V0, rfl, SV0, b4⟩
  have L0 := (L0.below b4).top
  have SV0 := SV0.mono (Nat.zero_le _) (Nat.le_refl _)
  go_wp2_with fail
  refine (impl_SystemValid x0 V0 _ _ SV0 o0 n0).mono ?_
  rintro e w5 ⟨rfl, b5⟩
  have L0 := (L0.below b5).top
  have SV0 := (SV0.below b5).top
  go_wp2_with fail
  refine (sgns_to x0 A0 c0 _ L0 o0 q0).mono ?_
  rintro e w6 ⟨T0, rfl, ST0, b6⟩
  have L0 := (L0.below b6).top
  have SV0 := (SV0.below b6).top
  have ST0 := ST0.mono (Nat.zero_le _) (Nat.le_refl _)
  go_wp2_with fail
  refine (sgns_eq x0 V0 T0 _ _ _ SV0 ST0 q0).mono ?_
  rintro e w7 ⟨rfl, b7⟩
  have L0 := (L0.below b7).top
  have SV0 := (SV0.below b7).top
  have ST0 := (ST0.below b7).top
  have ball := bel_trans b1 (bel_trans b2 (bel_trans b3 (bel_trans b4 (bel_trans b5 (bel_trans b6 (b7))))))
  go_wp2
  go_ret
  exact ⟨rfl, ball⟩

end Go.Proofs.Ytniemanapimjoaa
