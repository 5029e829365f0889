/-
  Lists of texts and of numbers of the call's own: made, marked, held, compared.
-/
import Derived.Test.YtlpagnbfjechhaaDoorMrk
namespace Go.Proofs.YtlpagnbfjechhaaDoor
open Go.RowKit Go.Sort
set_option linter.unusedSimpArgs false
set_option linter.unusedVariables false

theorem Seg.int1 {w : World} {lo hi : Nat} {A : Option Addr} {l : List Int} {k : Nat} {b : Int} (h : Seg w lo hi A (flat intC l)) (hk : l[k]? = some b) :
    ∃ g o, A = some ⟨g, o, none⟩ ∧ g < w.heap.size ∧ w.cell? ⟨g, o + k, none⟩ = some (.int .i64 b) := by
  have h0 := flat_get intC_len hk (j := 0) (by decide)
  rw [Nat.mul_one, Nat.add_zero] at h0
  rcases h with h | ⟨g, o, rfl, a, b, c, d⟩
  · rw [h] at h0; simp [intC] at h0
  · exact ⟨g, o, rfl, c, by simpa [intC] using d _ _ h0⟩
def marksInt (k : Int) (n : Nat) : List Int := (List.range n).map fun (i : Nat) => k + (i : Int)
theorem marksInt_len (k : Int) (n : Nat) : (marksInt k n).length = n := by simp [marksInt]
theorem marksInt_at (k : Int) {n i : Nat} (h : i < n) : (marksInt k n)[i]? = some (k + (i : Int)) := by simp [marksInt, h]
/-! ### texts -/
def marksStr (k : Int) (n : Nat) : List Str := (List.range n).map fun (i : Nat) => mtext (k + (i : Int))
theorem marksStr_len (k : Int) (n : Nat) : (marksStr k n).length = n := by simp [marksStr]
theorem marksStr_at (k : Int) {n i : Nat} (h : i < n) : (marksStr k n)[i]? = some (mtext (k + (i : Int))) := by simp [marksStr, h]
end Go.Proofs.YtlpagnbfjechhaaDoor
