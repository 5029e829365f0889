/-
  Contracts of OutlineJoin (both texts).
-/
import Derived.Test.YtlpagnbfjechhaaDoorChain
import Derived.Test.YtlpagnbfjechhaaDoorMem2
namespace Go.Proofs.YtlpagnbfjechhaaDoor
open Go.RowKit
set_option linter.unusedSimpArgs false
set_option linter.unusedVariables false

/-- a list of strokes of the call's own -/
def OwnStks (w : World) (base : Nat) (v : Value) (xs : List Stk) : Prop := w.ownsRow base 46 2 v xs.length (flat stkC xs)
def joinOk (a b : List Stk) : Bool := outOk a && outOk b && outOk (a ++ b)
def joined (a b : List Stk) : List Stk := if joinOk a b then a ++ b else []
/-- what a function that returns a list of strokes and whether it did leaves -/
def GaveStks (xs : List Stk) (ok : Bool) (w : World) (e : Ending) (w' : World) : Prop := ∃ v, e = .returned (.tuple #[v, .bool ok]) ∧ OwnStks w' w.heap.size v xs ∧ Below w.heap.size w w'
theorem own_none (w : World) (base : Nat) : OwnStks w base (.slice none 0 0) [] := ⟨rfl, .inl ⟨rfl, rfl⟩⟩
theorem own_made0 (w : World) (base : Nat) (hb : base ≤ w.heap.size) : OwnStks (w.alloc (.cells #[] 46)) base (.slice (some ⟨w.heap.size, 0, none⟩) 0 0) [] :=
  World.ownsRow_made w #[] 0 hb (by simp [maxLen]) (by simp)
theorem stk_one (xs : List Stk) : ∀ u ∈ flat stkC xs, u.oneCell' = true := by
  intro u hu
  obtain ⟨x, _, h⟩ := List.mem_flatMap.1 hu
  simp [stkC] at h
  rcases h with rfl | rfl <;> rfl
theorem OwnStks.form {w : World} {base : Nat} {v : Value} {xs : List Stk} (h : OwnStks w base v xs) : ∃ A c, v = .slice A xs.length c ∧ xs.length ≤ c ∧ c ≤ maxLen ∧ Seg w base w.heap.size A (flat stkC xs) := by
  obtain ⟨A, c, rfl, h1, h2⟩ := own_form h
  exact ⟨A, c, rfl, h1, h2, Seg.of_own h⟩
theorem own_belowB {w w' : World} {base : Nat} {v : Value} {xs : List Stk} (h : OwnStks w base v xs) (hb : Below w.heap.size w w') : OwnStks w' base v xs := own_below h hb
/-- a segment is read the same where one row of the call's own is written -/
theorem Seg.grown {w w' : World} {lo hi : Nat} {A : Option Addr} {xs : List Value} {row : Option Nat} (h : Seg w lo hi A xs) (hg : w.grownBy w' row) (hne : ∀ k, row = some k → k < lo ∨ hi ≤ k) : Seg w' lo hi A xs :=
  h.keep hg.size fun g h1 h2 h3 => hg.block g h3 fun e => by have := hne g e.symm; omega

theorem make_0n {P : Program} (t e : TypeId) (z : Value) (size bytes : Nat) (ht : P.underlying t = some (.slice e)) (hi : (P.info? e).map (fun i => (i.zero, i.size, i.bytes)) = some (some z, size, bytes))
    (hby : bytes ≤ 64) (n : Nat) (hn : n ≤ 8388608) (w : World) :
    (Instr.makeSlice t (.int .i64 0) (.int .i64 (n : Int))).run P w = .ok (.slice (some ⟨w.heap.size, 0, none⟩) 0 n) (w.alloc (.cells (madeCells z.cells (n * size)) e)) := by
  obtain ⟨i, hi, hz0, hz1, hz2⟩ := info_parts hi
  have h1 : bytes * n ≤ 64 * 8388608 := Nat.mul_le_mul hby hn
  have h2 : ((bytes * n : Nat) : Int) = (bytes : Int) * n := Int.natCast_mul _ _
  have := run_make (P := P) w t e i z ht hi hz0 .i64 .i64 (0 : Int) n (by omega) (by omega) (by rw [hz2]; omega) (by omega)
  simpa [hz1] using this
end Go.Proofs.YtlpagnbfjechhaaDoor
