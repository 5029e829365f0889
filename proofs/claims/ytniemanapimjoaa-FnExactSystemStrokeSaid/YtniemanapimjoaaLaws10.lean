/-
  Walk of the law FnExactSystemStroke.
-/
import Derived.Test.YtniemanapimjoaaKindSgn
import Derived.Test.YtniemanapimjoaaStroke
namespace Go.Proofs.Ytniemanapimjoaa
open Go.RowKit
set_option linter.unusedSimpArgs false
set_option linter.unusedVariables false

theorem walk_FnExactSystemStroke (r0 : Row Sgn) (s1 : ByteArray) (w : World) (h0 : RowOk w sgnC SgnOk r0) (h1 : s1.size ≤ maxLen) : Calls Try.prog 6 #[rowV r0, .string s1] w fun e w' => e = .returned (.bool true) ∧ Below w.heap.size w w' := by
  obtain ⟨A0, c0, x0, e0, L0, o0, k0, m0⟩ := row_sgns h0
  rw [e0]
  have n0 : x0.length ≤ maxLen := Nat.le_trans k0 m0
  have hm1 : s1.size ≤ 9223372036854775807 := h1
  clear e0 h0
  by_cases hb1 : (1048576 : Int) < s1.size
  · go_enter Try.func6, Try.ntmps6
    go_wp2
    go_ret
    exact ⟨rfl, Below.refl _ _⟩
  go_enter Try.func6, Try.ntmps6
  go_wp2_with fail
  refine (sgns_szB x0 A0 c0 _ _ L0 o0 n0 (by decide) (by decide)).mono ?_
  rintro e w1 ⟨⟨z0, rfl, hz0⟩, b1⟩
  have L1 := (L0.below b1).top
  rcases hz0 with rfl | ⟨za0, zb0, zc0⟩
  · go_wp2
    go_ret
    exact ⟨rfl, b1⟩
  have q0 : x0.length ≤ 1048576 := by omega
  go_wp2_with fail
  refine (sgns_to x0 A0 c0 _ L1 o0 q0).mono ?_
  rintro e w2 ⟨U0, rfl, SU, b2⟩
  have L2 := (L1.below b2).top
  go_wp2_with fail
  refine (spec_SystemStroke x0 s1 U0 _ _ (SU.mono (Nat.zero_le _) (Nat.le_refl _)) o0 n0).mono ?_
  rintro e w3 ⟨rfl, b3⟩
  generalize hst : stkOr (strokeOf x0 s1) = st
  have HST := Lib.hid hst
  clear hst
  have bA := bel_alloc (Below.refl w3.heap.size w3) (.cells #[.int .i64 st.1, .int .i64 st.2] 52)
  have L3 := (L2.below (bel_trans b3 bA)).top
  go_wp2_with fail
  refine (sgns_to x0 A0 c0 _ L3 o0 q0).mono ?_
  rintro e w4 ⟨V0, rfl, SV, b4⟩
  have L4 := (L3.below b4).top
  have SV' := SV.mono (Nat.zero_le _) (Nat.le_refl _)
  go_wp2_with fail
  refine (impl_SystemStroke x0 s1 V0 _ _ SV' o0 n0 h1).mono ?_
  rintro e w5 ⟨rfl, b5⟩
  rw [HST.out]
  have f0 : w5.cell? ⟨w3.heap.size, 0, none⟩ = some (.int .i64 st.1) := box_later (bel_trans b4 b5) 0
  have f1 : w5.cell? ⟨w3.heap.size, 1, none⟩ = some (.int .i64 st.2) := box_later (bel_trans b4 b5) 1
  have hz : w3.heap.size < w5.heap.size := by have := (bel_trans b4 b5).size; simp at this; omega
  have bB := bel_alloc (Below.refl w5.heap.size w5) (.cells #[.int .i64 st.1, .int .i64 st.2] 52)
  have L5 := (L4.below (bel_trans b5 bB)).top
  have SV5 := (SV'.below (bel_trans b5 bB)).top
  have ac := bel_trans b1 (bel_trans b2 (bel_trans b3 (bel_trans bA (bel_trans b4 (bel_trans b5 bB)))))
  clear bB bA
  go_wp2_with fail
  refine (laws_eqStroke st st _).mono ?_
  rintro e w6 ⟨rfl, rfl⟩
  rw [decide_eq_true rfl]
  have bC := bel_alloc (bel_alloc (Below.refl _ (w5.alloc (.cells #[.int .i64 st.1, .int .i64 st.2] 52))) (stkB st)) (stkB st)
  have L6 := (L5.below bC).top
  have SV6 := (SV5.below bC).top
  have ac2 := bel_trans ac bC
  generalize ((w5.alloc (.cells #[.int .i64 st.1, .int .i64 st.2] 52)).alloc (stkB st)).alloc (stkB st) = w7 at *
  clear f0 f1 bC ac
  go_wp2_with fail
  refine (sgns_to x0 A0 c0 _ L6 o0 q0).mono ?_
  rintro e w8 ⟨T0, rfl, ST, b8⟩
  go_wp2_with fail
  refine (sgns_eq x0 V0 T0 _ _ _ (SV6.below b8).top (ST.mono (Nat.zero_le _) (Nat.le_refl _)) q0).mono ?_
  rintro e w9 ⟨rfl, b9⟩
  have ac3 := bel_trans ac2 (bel_trans b8 b9)
  go_wp2
  go_ret
  exact ⟨rfl, ac3⟩
end Go.Proofs.Ytniemanapimjoaa
