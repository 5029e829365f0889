/-
  Written forms by value: compared, marked, held by the laws' helpers.
-/
import Derived.Test.YtnoffpicjhcpfaaMrk
namespace Go.Proofs.Ytnoffpicjhcpfaa
open Go.RowKit Go.Sort
set_option linter.unusedSimpArgs false
set_option linter.unusedVariables false

theorem Seg.box2 {w : World} {lo hi b : Nat} {u0 u1 : Value} (h : Seg w lo hi (some ⟨b, 0, none⟩) [u0, u1]) : w.cell? ⟨b, 0, none⟩ = some u0 ∧ w.cell? ⟨b, 1, none⟩ = some u1 ∧ b < w.heap.size := by
  rcases h with h | ⟨g, o, e, _, _, h3, hc⟩
  · cases h
  · injection e with e
    injection e with e1 e2
    subst e1 e2
    exact ⟨hc 0 _ rfl, hc 1 _ rfl, h3⟩
theorem wrt_eq (xs : List Stk) (p : Int) (A B : Option Addr) (c d : Nat) (w : World) (hw : Seg w 0 w.heap.size A (flat stkC xs)) (hv : Seg w 0 w.heap.size B (flat stkC xs)) (hn : xs.length ≤ 1048576) :
    Calls Try.prog 37 #[.agg #[.slice A xs.length c, .int .i64 p], .agg #[.slice B xs.length d, .int .i64 p]] w fun e w' => e = .returned (.bool true) ∧ Below w.heap.size w w' := by
  have bA := bel_alloc (bel_alloc (Below.refl w.heap.size w) (.cells #[.slice A xs.length c, .int .i64 p] 47)) (.cells #[.slice B xs.length d, .int .i64 p] 47)
  have hw1 := (hw.below bA).top
  have hv1 := (hv.below bA).top
  go_enter Try.func37, Try.ntmps37
  go_wp2_with fail
  refine (stks_eq xs A B c d _ hw1 hv1 hn).mono ?_
  rintro e w1 ⟨rfl, b1⟩
  have k0 : w1.cell? ⟨w.heap.size, 1, none⟩ = some (.int .i64 p) := (b1.cell (p := ⟨w.heap.size, 1, none⟩) (by simp; omega)).trans (((bel_alloc (Below.refl _ (w.alloc (.cells #[.slice A xs.length c, .int .i64 p] 47))) (.cells #[.slice B xs.length d, .int .i64 p] 47)).cell (p := ⟨w.heap.size, 1, none⟩) (by simp)).trans (box_cell w _ _ 1))
  have k1 : w1.cell? ⟨w.heap.size + 1, 1, none⟩ = some (.int .i64 p) := by
    have h := box_later b1 1
    have e : (w.alloc (.cells #[.slice A xs.length c, .int .i64 p] 47)).heap.size = w.heap.size + 1 := by simp
    rw [e] at h
    exact h
  have bal := bel_trans bA b1
  clear b1 bA hw1 hv1
  go_wp2
  go_ret
  exact ⟨rfl, bal⟩
theorem wrt_markG (xs : List Stk) (base : Nat) (A : Option Addr) (c : Nat) (p k : Int) (w : World) (hown : w.ownsRow base 74 2 (.slice A xs.length c) xs.length (flat stkC xs)) (hn : xs.length ≤ 1048576) (hk0 : 0 ≤ k) (hk1 : k ≤ 1000000000000) :
    Calls Try.prog 55 #[.agg #[.slice A xs.length c, .int .i64 p], .int .i64 k] w fun e w' => e = .returned (.int .i64 (k + 2 * xs.length)) ∧ w'.ownsRow base 74 2 (.slice A xs.length c) xs.length (flat stkC (marksStk k xs.length)) ∧ w.grownBy w' (Value.slice A xs.length c).ownBlock := by
  have bA := bel_alloc (Below.refl w.heap.size w) (.cells #[.slice A xs.length c, .int .i64 p] 47)
  have own1 := own_below hown bA
  go_enter Try.func55, Try.ntmps55
  go_wp2_with fail
  refine (stks_markG xs base A c k _ own1 hn hk0 hk1).mono ?_
  rintro e w1 ⟨rfl, own2, g1⟩
  have gr := grow_trans (grow_below bA) g1
  clear own1 bA g1
  go_wp2
  go_ret
  exact ⟨rfl, own2, gr⟩
theorem wrt_heldB (n : Nat) (k0 p : Int) (A : Option Addr) (c : Nat) (w : World) (hw : Seg w 0 w.heap.size A (flat stkC (marksStk k0 n))) (hn : n ≤ 1048576) (hk0 : 0 ≤ k0) (hk1 : k0 ≤ 1000000000000) :
    Calls Try.prog 56 #[.agg #[.slice A n c, .int .i64 p], .int .i64 k0] w fun e w' => e = .returned (.int .i64 (k0 + 2 * n)) ∧ Below w.heap.size w w' := by
  have bA := bel_alloc (Below.refl w.heap.size w) (.cells #[.slice A n c, .int .i64 p] 47)
  have hw1 := (hw.below bA).top
  go_enter Try.func56, Try.ntmps56
  go_wp2_with fail
  refine (stks_heldB n k0 A c _ hw1 hn hk0 hk1).mono ?_
  rintro e w1 ⟨rfl, b1⟩
  have bal := bel_trans bA b1
  clear b1 bA hw1
  go_wp2
  go_ret
  exact ⟨rfl, bal⟩
end Go.Proofs.Ytnoffpicjhcpfaa
