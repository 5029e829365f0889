/-
  Uniform contracts over lists of strokes of the call's own: made, marked, held.
-/
import Derived.Test.YtbcbpcidfcjibaaKinds1
import Derived.Test.YtbcbpcidfcjibaaMarkStk
import Derived.Test.YtbcbpcidfcjibaaJoin
namespace Go.Proofs.Ytbcbpcidfcjibaa
open Go.RowKit
set_option linter.unusedSimpArgs false
set_option linter.unusedVariables false

theorem OwnStks.own {w : World} {base : Nat} {v : Value} {xs : List Stk} (h : OwnStks w base v xs) : w.ownsRow base 51 2 v xs.length (flat stkC xs) := h
theorem own_wrote {w w' : World} {base n : Nat} {e : TypeId} {size : Nat} {v vm : Value} {xs : List Value} (h : w.ownsRow base e size v n xs) (hm : Wrote w w' vm) (hne : ∀ k, v.ownBlock = some k → vm.ownBlock = some k → False) : w'.ownsRow base e size v n xs := by
  refine h.kept hm.1 ?_
  cases hv : v.ownBlock with
  | none => exact .inl rfl
  | some k => exact .inr fun e => hne k hv e.symm
theorem wrote_below {B : Nat} {w w' : World} {v : Value} (hm : Wrote w w' v) (h : ∀ k, v.ownBlock = some k → B ≤ k) : Below B w w' := by
  by_cases hB : B ≤ w.heap.size
  · exact (Below.refl B w).grown hm.1 hB h
  · exact ⟨hm.1.os, hm.1.tape, hm.1.output, hm.1.size, fun k hk => by
      by_cases hk2 : k < w.heap.size
      · exact hm.1.block k hk2 fun e => by have := h k e.symm; omega
      · rw [Array.getElem?_eq_none (by rw [hm.2]; omega), Array.getElem?_eq_none (by omega)]⟩
end Go.Proofs.Ytbcbpcidfcjibaa
