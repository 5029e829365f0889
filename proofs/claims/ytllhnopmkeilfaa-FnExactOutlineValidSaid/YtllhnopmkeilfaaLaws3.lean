/-
  Walks of the laws FnExactStrokeValid and FnExactOutlineValid.
-/
import Derived.Test.YtllhnopmkeilfaaChain
import Derived.Test.YtllhnopmkeilfaaOpen
namespace Go.Proofs.Ytllhnopmkeilfaa
open Go.RowKit
set_option linter.unusedSimpArgs false
set_option linter.unusedVariables false

theorem walk_FnExactStrokeValid (s : Stk) (w : World) (h : StkOk s) : Calls Try.prog 4 #[.agg (stkC s).toArray] w fun e w' => e = .returned (.bool true) ∧ Below w.heap.size w w' := by
  show Calls Try.prog 4 #[.agg #[.int .i64 s.1, .int .i64 s.2]] w _
  go_enter Try.func4, Try.ntmps4
  go_wp2_with fail
  refine (laws_toStroke s _).mono ?_
  rintro e w1 ⟨rfl, b1⟩
  go_wp2_with fail
  refine (spec_StrokeValid_of s _ rfl _).mono ?_
  rintro e w2 ⟨rfl, b2⟩
  have b12 := bel_trans b1 b2
  have k0 : w2.cell? ⟨w.heap.size, 0, none⟩ = some (.int .i64 s.1) := box_later b12 0
  have k1 : w2.cell? ⟨w.heap.size, 1, none⟩ = some (.int .i64 s.2) := box_later b12 1
  go_wp2_with fail
  refine (laws_toStroke s _).mono ?_
  rintro e w3 ⟨rfl, b3⟩
  go_wp2_with fail
  refine (impl_StrokeValid_of s _ rfl _).mono ?_
  rintro e w4 ⟨rfl, b4⟩
  have hall := bel_trans (bel_alloc (Below.refl w.heap.size w) _) (bel_trans b12 (bel_trans b3 b4))
  clear k0 k1
  go_wp2
  go_ret
  exact ⟨rfl, hall⟩

theorem walk_FnExactOutlineValid (r : Row Stk) (w : World) (h : RowOk w stkC StkOk r) : Calls Try.prog 14 #[rowV r] w fun e w' => e = .returned (.bool true) ∧ Below w.heap.size w w' := by
  obtain ⟨A, c, os⟩ := r
  obtain ⟨hw, ho, hc, hm⟩ := h
  simp only at hw ho hc hm
  have hn : os.length ≤ maxLen := by omega
  show Calls Try.prog 14 #[.slice A os.length c] w _
  go_enter Try.func14, Try.ntmps14
  go_wp2_with fail
  refine (laws_szStrokeS os A c _ _ hn (by decide) (by decide)).mono ?_
  rintro e w' ⟨⟨z, rfl, hz⟩, rfl⟩
  rcases hz with rfl | ⟨hz0, hz1⟩
  · go_wp2
    go_ret
    exact ⟨rfl, Below.refl _ _⟩
  have hl : os.length ≤ 1048576 := by omega
  clear hz1
  go_wp2_with fail
  refine (laws_toStrokeS os A c _ hw hl).mono ?_
  rintro e w1 ⟨A1, rfl, s1, b1⟩
  have hw1 := (hw.below b1).top
  go_wp2_with fail
  refine (spec_OutlineValid os A1 _ _ (s1.mono (Nat.zero_le _) (Nat.le_refl _)) hn).mono ?_
  rintro e w2 ⟨rfl, b2⟩
  have hw2 := (hw1.below b2).top
  go_wp2_with fail
  refine (laws_toStrokeS os A c _ hw2 hl).mono ?_
  rintro e w3 ⟨A3, rfl, s3, b3⟩
  have hw3 := (hw2.below b3).top
  have s3' := s3.mono (Nat.zero_le _) (Nat.le_refl _)
  go_wp2_with fail
  refine (impl_OutlineValid os A3 _ _ s3' hn).mono ?_
  rintro e w4 ⟨rfl, b4⟩
  have hw4 := (hw3.below b4).top
  have s4 := (s3'.below b4).top
  go_wp2_with fail
  refine (laws_toStrokeS os A c _ hw4 hl).mono ?_
  rintro e w5 ⟨A5, rfl, s5, b5⟩
  go_wp2_with fail
  refine (laws_eqStrokeS os A3 A5 _ _ _ (s4.below b5 |>.top) (s5.mono (Nat.zero_le _) (Nat.le_refl _)) hl).mono ?_
  rintro e w6 ⟨rfl, b6⟩
  have hall := bel_trans b1 (bel_trans b2 (bel_trans b3 (bel_trans b4 (bel_trans b5 b6))))
  go_wp2
  go_ret
  exact ⟨rfl, hall⟩
end Go.Proofs.Ytllhnopmkeilfaa
