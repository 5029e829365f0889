/-
  Uniform contracts of the laws' own helpers over lists of strokes and of words; what a contract says of the world, in one form.
-/
import Derived.Test.YtlpagnbfjechhaaDoorStks
import Derived.Test.YtlpagnbfjechhaaDoorStrs
import Derived.Test.YtlpagnbfjechhaaDoorOpen
namespace Go.Proofs.YtlpagnbfjechhaaDoor
open Go.RowKit
set_option linter.unusedSimpArgs false
set_option linter.unusedVariables false

theorem callsB_same {P : Program} {f : FuncId} {args : Array Value} {w : World} {v : Value} (h : Calls P f args w fun e w' => e = .returned v ∧ w = w') :
    Calls P f args w fun e w' => e = .returned v ∧ Below w.heap.size w w' := h.mono fun _ _ ⟨h1, h2⟩ => ⟨h1, h2 ▸ Below.refl _ _⟩
theorem callsB_drew {P : Program} {f : FuncId} {args : Array Value} {w : World} {v : Value} (h : Calls P f args w fun e w' => e = .returned v ∧ ∃ n, w' = w.drewN n) :
    Calls P f args w fun e w' => e = .returned v ∧ Below w.heap.size w w' := h.mono fun _ _ ⟨h1, n, h2⟩ => ⟨h1, h2 ▸ Below_drewN (Below.refl _ _) n⟩
/-- what is left of the size that a law allows -/
def LeftB (left n z : Int) : Prop := z = -1 ∨ (0 ≤ z ∧ z ≤ left ∧ n ≤ left)
abbrev LayStks (w : World) (lo hi : Nat) (A : Option Addr) (xs : List Stk) : Prop := Seg w lo hi A (flat stkC xs)
abbrev LayStrs (w : World) (lo hi : Nat) (A : Option Addr) (xs : List Str) : Prop := Seg w lo hi A (strs xs)
abbrev OkStks (xs : List Stk) : Prop := ∀ a ∈ xs, StkOk a
abbrev OkStrs (xs : List Str) : Prop := StrsOk xs
theorem row_stks {w : World} {r : Row Stk} (h : RowOk w stkC StkOk r) : ∃ A c xs, rowV r = .slice A (xs : List Stk).length c ∧ LayStks w 0 w.heap.size A xs ∧ OkStks xs ∧ xs.length ≤ c ∧ c ≤ maxLen := by
  obtain ⟨A, c, xs⟩ := r
  exact ⟨A, c, xs, rfl, h.1, h.2.1, h.2.2.1, h.2.2.2⟩
theorem row_strs {w : World} {r : Row Str} (h : RowOk w strC StrOk r) : ∃ A c xs, rowV r = .slice A (xs : List Str).length c ∧ LayStrs w 0 w.heap.size A xs ∧ OkStrs xs ∧ xs.length ≤ c ∧ c ≤ maxLen := by
  obtain ⟨A, c, xs⟩ := r
  exact ⟨A, c, xs, rfl, by have := h.1; rw [flat_strC] at this; exact this, h.2.1, h.2.2.1, h.2.2.2⟩

theorem stks_eq (xs : List Stk) (A B : Option Addr) (c d : Nat) (w : World) (hw : LayStks w 0 w.heap.size A xs) (hv : LayStks w 0 w.heap.size B xs) (hn : xs.length ≤ 1048576) :
    Calls Tryd.prog 20 #[.slice A xs.length c, .slice B xs.length d] w fun e w' => e = .returned (.bool true) ∧ Below w.heap.size w w' := laws_eqStrokeS xs A B c d w hw hv hn
end Go.Proofs.YtlpagnbfjechhaaDoor
