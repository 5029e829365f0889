/-
  Uniform contracts over lists of strokes of the call's own: made, marked, held.
-/
import Derived.Test.YtlpagnbfjechhaaDoorKinds1
import Derived.Test.YtlpagnbfjechhaaDoorMarkStk
import Derived.Test.YtlpagnbfjechhaaDoorJoin
namespace Go.Proofs.YtlpagnbfjechhaaDoor
open Go.RowKit
set_option linter.unusedSimpArgs false
set_option linter.unusedVariables false

theorem OwnStks.own {w : World} {base : Nat} {v : Value} {xs : List Stk} (h : OwnStks w base v xs) : w.ownsRow base 46 2 v xs.length (flat stkC xs) := h
theorem own_wrote {w w' : World} {base n : Nat} {e : TypeId} {size : Nat} {v vm : Value} {xs : List Value} (h : w.ownsRow base e size v n xs) (hm : Wrote w w' vm) (hne : ∀ k, v.ownBlock = some k → vm.ownBlock = some k → False) : w'.ownsRow base e size v n xs := by
  refine h.kept hm.1 ?_
  cases hv : v.ownBlock with
  | none => exact .inl rfl
  | some k => exact .inr fun e => hne k hv e.symm
theorem wrote_below {B : Nat} {w w' : World} {v : Value} (hm : Wrote w w' v) (h : ∀ k, v.ownBlock = some k → B ≤ k) : Below B w w' := by
  by_cases hB : B ≤ w.heap.size
  · exact (Below.refl B w).grown hm.1 hB h
  · exact ⟨hm.1.os, hm.1.tape, hm.1.output, hm.1.size, fun k hk => by
      by_cases hk2 : k < w.heap.size
      · exact hm.1.block k hk2 fun e => by have := h k e.symm; omega
      · rw [Array.getElem?_eq_none (by rw [hm.2]; omega), Array.getElem?_eq_none (by omega)]⟩
theorem stks_markO (xs : List Stk) (base : Nat) (A : Option Addr) (c : Nat) (k : Int) (w : World) (hown : w.ownsRow base 46 2 (.slice A xs.length c) xs.length (flat stkC xs)) (hn : xs.length ≤ 1048576) (hk0 : 0 ≤ k) (hk1 : k ≤ 1000000000000) :
    Calls Tryd.prog 14 #[.slice A xs.length c, .int .i64 k] w fun e w' => e = .returned (.int .i64 (k + 2 * xs.length)) ∧ w'.ownsRow base 46 2 (.slice A xs.length c) xs.length (flat stkC (marksStk k xs.length)) ∧ Wrote w w' (.slice A xs.length c) := laws_markStrokeS xs base A c k w hown hn hk0 hk1
theorem stks_held (n : Nat) (k0 : Int) (A : Option Addr) (c : Nat) (w : World) (hw : Seg w 0 w.heap.size A (flat stkC (marksStk k0 n))) (hn : n ≤ 1048576) (hk0 : 0 ≤ k0) (hk1 : k0 ≤ 1000000000000) :
    Calls Tryd.prog 15 #[.slice A n c, .int .i64 k0] w fun e w' => e = .returned (.int .i64 (k0 + 2 * n)) ∧ w = w' := laws_heldStrokeS n k0 A c w hw hn hk0 hk1
end Go.Proofs.YtlpagnbfjechhaaDoor
