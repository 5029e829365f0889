/-
  Contracts of the laws' helpers over signs: szSignS, toSignS, eqSignS.
-/
import Derived.Test.YtlpagnbfjechhaaDoorSys
import Derived.Test.YtlpagnbfjechhaaDoorKinds1
import Derived.Deep.RegionHeld3
namespace Go.Proofs.YtlpagnbfjechhaaDoor
open Go.RowKit Go.Sort
set_option linter.unusedSimpArgs false
set_option linter.unusedVariables false

theorem bcell {W w1 : World} (hb : Below W.heap.size W w1) : (∀ b o, b < W.heap.size → w1.cell? ⟨b, o, none⟩ = W.cell? ⟨b, o, none⟩) ∧ (∀ b o, b < W.heap.size → w1.frozen? ⟨b, o, none⟩ = W.frozen? ⟨b, o, none⟩) :=
  ⟨fun b o h => hb.cell (p := ⟨b, o, none⟩) h, fun b o h => hb.frozen (p := ⟨b, o, none⟩) h⟩
abbrev LaySgns (w : World) (lo hi : Nat) (A : Option Addr) (xs : List Sgn) : Prop := Seg w lo hi A (flat sgnC xs)
theorem row_sgns {w : World} {r : Row Sgn} (h : RowOk w sgnC SgnOk r) : ∃ A c xs, rowV r = .slice A (xs : List Sgn).length c ∧ LaySgns w 0 w.heap.size A xs ∧ OkSgns xs ∧ xs.length ≤ c ∧ c ≤ maxLen := by
  obtain ⟨A, c, xs⟩ := r
  exact ⟨A, c, xs, rfl, h.1, fun x hx => (h.2.1 x hx).1, h.2.2.1, h.2.2.2⟩

end Go.Proofs.YtlpagnbfjechhaaDoor
