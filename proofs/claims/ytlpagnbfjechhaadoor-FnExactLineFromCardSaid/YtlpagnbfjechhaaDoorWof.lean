/-
  Contracts of WrittenOf (both texts); written forms by value: compared, marked, held.
-/
import Derived.Test.YtlpagnbfjechhaaDoorWo
import Derived.Test.YtlpagnbfjechhaaDoorWords3
import Derived.Test.YtlpagnbfjechhaaDoorMrk
namespace Go.Proofs.YtlpagnbfjechhaaDoor
open Go.RowKit Go.Sort
set_option linter.unusedSimpArgs false
set_option linter.unusedVariables false

/-- what a function that returns a written form and whether there is one leaves -/
def GaveWrt (xs : List Stk) (p : Int) (ok : Bool) (w : World) (e : Ending) (w' : World) : Prop := ∃ v, e = .returned (.tuple #[.agg #[v, .int .i64 p], .bool ok]) ∧ OwnStks w' w.heap.size v xs ∧ Below w.heap.size w w'
theorem own_set1 {w : World} {base n b o : Nat} {e : TypeId} {size : Nat} {v : Value} {xs : List Value} (h : w.ownsRow base e size v n xs) (hb : b < base) (u : Value) : (w.setCell ⟨b, o, none⟩ u).ownsRow base e size v n xs :=
  own_grew (vm := .slice (some ⟨b, 0, none⟩) 0 0) h (grow_set w b o 0 0 u) (fun k h1 h2 => by simp [Value.ownBlock] at h2; have := (h.lt k h1).1; omega)
def wofP (ss : List Sgn) (s : Str) : Int := if woOk ss s then posOf s else 0
theorem wof_no {ss : List Sgn} {s : Str} (h : woOk ss s = false) : woOf ss s = [] ∧ wofP ss s = 0 := ⟨by rw [woOf, h]; rfl, by rw [wofP, h]; rfl⟩
theorem wof_yes {ss : List Sgn} {s : Str} (h : woOk ss s = true) : wofP ss s = posOf s := by rw [wofP, h]; rfl

end Go.Proofs.YtlpagnbfjechhaaDoor
