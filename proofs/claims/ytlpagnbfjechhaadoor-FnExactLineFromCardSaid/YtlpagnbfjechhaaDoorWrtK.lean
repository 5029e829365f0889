/-
  Written forms by value: compared, marked, held by the laws' helpers.
-/
import Derived.Test.YtlpagnbfjechhaaDoorMrk
namespace Go.Proofs.YtlpagnbfjechhaaDoor
open Go.RowKit Go.Sort
set_option linter.unusedSimpArgs false
set_option linter.unusedVariables false

theorem Seg.box2 {w : World} {lo hi b : Nat} {u0 u1 : Value} (h : Seg w lo hi (some ⟨b, 0, none⟩) [u0, u1]) : w.cell? ⟨b, 0, none⟩ = some u0 ∧ w.cell? ⟨b, 1, none⟩ = some u1 ∧ b < w.heap.size := by
  rcases h with h | ⟨g, o, e, _, _, h3, hc⟩
  · cases h
  · injection e with e
    injection e with e1 e2
    subst e1 e2
    exact ⟨hc 0 _ rfl, hc 1 _ rfl, h3⟩
theorem wrt_eq (xs : List Stk) (p : Int) (A B : Option Addr) (c d : Nat) (w : World) (hw : Seg w 0 w.heap.size A (flat stkC xs)) (hv : Seg w 0 w.heap.size B (flat stkC xs)) (hn : xs.length ≤ 1048576) :
    Calls Tryd.prog 13 #[.agg #[.slice A xs.length c, .int .i64 p], .agg #[.slice B xs.length d, .int .i64 p]] w fun e w' => e = .returned (.bool true) ∧ Below w.heap.size w w' := by
  have bA := bel_alloc (bel_alloc (Below.refl w.heap.size w) (.cells #[.slice A xs.length c, .int .i64 p] 32)) (.cells #[.slice B xs.length d, .int .i64 p] 32)
  have hw1 := (hw.below bA).top
  have hv1 := (hv.below bA).top
  go_enter Tryd.func13, Tryd.ntmps13
  go_wp2_with fail
  refine (stks_eq xs A B c d _ hw1 hv1 hn).mono ?_
  rintro e w1 ⟨rfl, b1⟩
  have k0 : w1.cell? ⟨w.heap.size, 1, none⟩ = some (.int .i64 p) := (b1.cell (p := ⟨w.heap.size, 1, none⟩) (by simp; omega)).trans (((bel_alloc (Below.refl _ (w.alloc (.cells #[.slice A xs.length c, .int .i64 p] 32))) (.cells #[.slice B xs.length d, .int .i64 p] 32)).cell (p := ⟨w.heap.size, 1, none⟩) (by simp)).trans (box_cell w _ _ 1))
  have k1 : w1.cell? ⟨w.heap.size + 1, 1, none⟩ = some (.int .i64 p) := by
    have h := box_later b1 1
    have e : (w.alloc (.cells #[.slice A xs.length c, .int .i64 p] 32)).heap.size = w.heap.size + 1 := by simp
    rw [e] at h
    exact h
  have bal := bel_trans bA b1
  clear b1 bA hw1 hv1
  go_wp2
  go_ret
  exact ⟨rfl, bal⟩
end Go.Proofs.YtlpagnbfjechhaaDoor
