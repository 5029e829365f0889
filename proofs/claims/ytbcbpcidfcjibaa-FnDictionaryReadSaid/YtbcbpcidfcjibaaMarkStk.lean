/-
  Contracts of markStrokeS and heldStrokeS.
-/
import Derived.Test.YtbcbpcidfcjibaaStks
import Derived.Test.YtbcbpcidfcjibaaMem2
namespace Go.Proofs.Ytbcbpcidfcjibaa
open Go.RowKit
set_option linter.unusedSimpArgs false
set_option linter.unusedVariables false

/-- what the marks of a list of strokes are -/
def markStk (k : Int) (i : Nat) : Stk := (k + 2 * i, k + 2 * i + 1)
def marksStk (k : Int) (n : Nat) : List Stk := (List.range n).map (markStk k)
theorem marksStk_len (k : Int) (n : Nat) : (marksStk k n).length = n := by simp [marksStk]
theorem marksStk_at (k : Int) {n i : Nat} (h : i < n) : (marksStk k n)[i]? = some (markStk k i) := by simp [marksStk, h]

/-- the row's block alone has turned -/
def Wrote (w w' : World) (v : Value) : Prop := w.grownBy w' v.ownBlock ∧ w'.heap.size = w.heap.size
theorem wrote_trans {w1 w2 w3 : World} {v : Value} (h1 : Wrote w1 w2 v) (h2 : Wrote w2 w3 v) : Wrote w1 w3 v :=
  ⟨⟨h2.1.os.trans h1.1.os, h2.1.tape.trans h1.1.tape, h2.1.output.trans h1.1.output, Nat.le_trans h1.1.size h2.1.size, fun k hk hne => (h2.1.block k (Nat.lt_of_lt_of_le hk h1.1.size) hne).trans (h1.1.block k hk hne)⟩, h2.2.trans h1.2⟩
theorem wrote_set (w : World) (b o n c : Nat) (u : Value) : Wrote w (w.setCell ⟨b, o, none⟩ u) (.slice (some ⟨b, 0, none⟩) n c) :=
  ⟨⟨rfl, rfl, rfl, by simp [World.setCell], fun k _ hne => Below.heap_setCell w ⟨b, o, none⟩ u k (by intro e; apply hne; simp [Value.ownBlock]; exact e)⟩, by simp [World.setCell]⟩

end Go.Proofs.Ytbcbpcidfcjibaa
