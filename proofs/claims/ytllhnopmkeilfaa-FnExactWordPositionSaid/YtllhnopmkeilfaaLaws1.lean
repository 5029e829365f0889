/-
  Walks of laws over words and numbers: each returns true and writes nothing that was there.
-/
import Derived.Test.YtllhnopmkeilfaaWords3
namespace Go.Proofs.Ytllhnopmkeilfaa
open Go.RowKit
set_option linter.unusedSimpArgs false
set_option linter.unusedVariables false

theorem walk_FnExactConstants (w : World) : Calls Try.prog 3 #[] w fun e w' => e = .returned (.bool true) ∧ Below w.heap.size w w' := by
  go_enter Try.func3, Try.ntmps3
  go_wp2
  go_ret
  exact ⟨rfl, Below.refl _ _⟩

theorem walk_FnExactWordValid (a : ByteArray) (w : World) (ha : a.size ≤ maxLen) : Calls Try.prog 5 #[.string a] w fun e w' => e = .returned (.bool true) ∧ Below w.heap.size w w' := by
  have hm : a.size ≤ 9223372036854775807 := ha
  by_cases hb : (1048576 : Int) < a.size
  · go_enter Try.func5, Try.ntmps5
    go_wp2
    go_ret
    exact ⟨rfl, Below.refl _ _⟩
  · go_enter Try.func5, Try.ntmps5
    go_wp2_with (first | (go_at_call 18; refine (spec_WordValid _ _ ha).mono ?_; rintro e w' ⟨rfl, rfl⟩) | (go_at_call 19; refine (impl_WordValid _ _ ha).mono ?_; rintro e w' ⟨rfl, rfl⟩))
    go_ret
    exact ⟨rfl, Below.refl _ _⟩

theorem walk_FnExactWordVowels (a : ByteArray) (w : World) (ha : a.size ≤ maxLen) : Calls Try.prog 7 #[.string a] w fun e w' => e = .returned (.bool true) ∧ Below w.heap.size w w' := by
  have hm : a.size ≤ 9223372036854775807 := ha
  by_cases hb : (1048576 : Int) < a.size
  · go_enter Try.func7, Try.ntmps7
    go_wp2
    go_ret
    exact ⟨rfl, Below.refl _ _⟩
  · go_enter Try.func7, Try.ntmps7
    go_wp2_with (first | (go_at_call 22; refine (spec_WordVowels _ _ ha).mono ?_; rintro e w' ⟨rfl, rfl⟩) | (go_at_call 23; refine (impl_WordVowels _ _ ha).mono ?_; rintro e w1 ⟨rfl, hb1⟩))
    go_ret
    exact ⟨rfl, hb1⟩

theorem walk_FnExactWordBare (a : ByteArray) (w : World) (ha : a.size ≤ maxLen) : Calls Try.prog 8 #[.string a] w fun e w' => e = .returned (.bool true) ∧ Below w.heap.size w w' := by
  have hm : a.size ≤ 9223372036854775807 := ha
  by_cases hb : (1048576 : Int) < a.size
  · go_enter Try.func8, Try.ntmps8
    go_wp2
    go_ret
    exact ⟨rfl, Below.refl _ _⟩
  · go_enter Try.func8, Try.ntmps8
    go_wp2_with (first | (go_at_call 24; refine (spec_WordBare _ _ ha).mono ?_; rintro e w' ⟨rfl, n, rfl⟩) | (go_at_call 25; refine (impl_WordBare _ _ ha).mono ?_; rintro e w1 ⟨rfl, hb1⟩))
    go_ret
    exact ⟨rfl, (Below_drewN (Below.refl _ _) n).trans hb1⟩

theorem walk_FnExactOutlineMany (a : Int) (w : World) (ha : (Lit.int .i64 a).wf = true) : Calls Try.prog 6 #[.int .i64 a] w fun e w' => e = .returned (.bool true) ∧ Below w.heap.size w w' := by
  go_enter Try.func6, Try.ntmps6
  go_wp2_with (first | (go_at_call 20; refine (spec_OutlineMany _ _).mono ?_; rintro e w' ⟨rfl, rfl⟩) | (go_at_call 21; refine (impl_OutlineMany _ _).mono ?_; rintro e w1 ⟨rfl, rfl⟩))
  go_ret
  exact ⟨rfl, Below.refl _ _⟩

theorem walk_FnExactWordPosition (a : ByteArray) (w : World) (ha : a.size ≤ maxLen) : Calls Try.prog 12 #[.string a] w fun e w' => e = .returned (.bool true) ∧ Below w.heap.size w w' := by
  have hm : a.size ≤ 9223372036854775807 := ha
  by_cases hb : (1048576 : Int) < a.size
  · go_enter Try.func12, Try.ntmps12
    go_wp2
    go_ret
    exact ⟨rfl, Below.refl _ _⟩
  · go_enter Try.func12, Try.ntmps12
    go_wp2_with (first | (go_at_call 40; refine (spec_WordPosition _ _ ha).mono ?_; rintro e w' ⟨rfl, rfl⟩) | (go_at_call 41; refine (impl_WordPosition _ _ ha).mono ?_; rintro e w1 ⟨rfl, hb1⟩))
    go_ret
    exact ⟨rfl, hb1⟩
end Go.Proofs.Ytllhnopmkeilfaa
