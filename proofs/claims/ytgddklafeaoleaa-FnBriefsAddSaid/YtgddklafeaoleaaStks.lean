/-
  Contracts of the functions over strokes and lists of strokes.
-/
import Derived.Test.YtgddklafeaoleaaMem
import Derived.Test.YtgddklafeaoleaaData
import Derived.Test.YtgddklafeaoleaaWords1
import Derived.Deep.RegionHeld3
import Derived.BigQuiet
import Derived.Lib.QuietBelow
import Derived.Outline
namespace Go.Proofs.Ytgddklafeaoleaa
open Go.RowKit Go.Sort
set_option linter.unusedSimpArgs false
set_option linter.unusedVariables false

def stOk (s : Stk) : Bool := decide (0 ≤ s.1) && decide (s.1 ≤ 7) && (decide (1 ≤ s.2) && decide (s.2 ≤ 3))
def stkV (s : Stk) : Value := .agg #[.int .i64 s.1, .int .i64 s.2]
/-! ### a stroke of a row -/
theorem Seg.stk {w : World} {lo hi : Nat} {A : Option Addr} {os : List Stk} {k : Nat} {s : Stk} (h : Seg w lo hi A (flat stkC os)) (hk : os[k]? = some s) :
    ∃ g o, A = some ⟨g, o, none⟩ ∧ g < w.heap.size ∧ lo ≤ g ∧ g < hi ∧ w.cell? ⟨g, o + k * 2, none⟩ = some (.int .i64 s.1) ∧ w.cell? ⟨g, o + k * 2 + 1, none⟩ = some (.int .i64 s.2) := by
  have h0 := flat_get stkC_len hk (j := 0) (by decide)
  have h1 := flat_get stkC_len hk (j := 1) (by decide)
  rcases h with h | ⟨g, o, rfl, a, b, c, d⟩
  · rw [h] at h0; simp [stkC] at h0
  · exact ⟨g, o, rfl, c, a, b, by simpa [stkC] using d _ _ h0, by simpa [stkC, Nat.add_assoc] using d _ _ h1⟩

/-! ### outlines -/
def stkAt (os : List Stk) (k : Nat) : Stk := os.getD k (0, 0)
theorem stkAt_eq {os : List Stk} {k : Nat} {s : Stk} (h : os[k]? = some s) : stkAt os k = s := by simp [stkAt, List.getD, h]
/-- two strokes that follow each other have neither one direction nor opposite ones -/
def turns (a b : Stk) : Bool := !decide ((b.1 - a.1) % 4 = 0)
def outAt (os : List Stk) (k : Nat) : Bool := stOk (stkAt os k) && (k == 0 || turns (stkAt os (k - 1)) (stkAt os k))
def outOk (os : List Stk) : Bool := decide (os.length ≤ 8) && allTo (outAt os) os.length
theorem stOk_iff {s : Stk} : stOk s = true ↔ 0 ≤ s.1 ∧ s.1 ≤ 7 ∧ 1 ≤ s.2 ∧ s.2 ≤ 3 := by simp [stOk, and_assoc]
theorem tmod4 {a b : Int} (ha : 0 ≤ a ∧ a ≤ 7) (hb : 0 ≤ b ∧ b ≤ 7) : ((b - a).tmod 4 == 0) = decide ((b - a) % 4 = 0) := by
  rw [Bool.eq_iff_iff]
  simp only [beq_iff_eq, decide_eq_true_eq]
  rw [← Int.dvd_iff_tmod_eq_zero, Int.dvd_iff_emod_eq_zero]

end Go.Proofs.Ytgddklafeaoleaa
