/-
  Contracts of WordPosition and OutlineMany (both texts), and of the checks and copies of a stroke.
-/
import Derived.Test.YtlpagnbfjechhaaDoorWords2
namespace Go.Proofs.YtlpagnbfjechhaaDoor
open Go.RowKit
set_option linter.unusedSimpArgs false
set_option linter.unusedVariables false

/-- the position of a word -/
def posOf (s : ByteArray) : Int :=
  if wordOk s then
    match vowOf s with
    | [] => 1
    | c :: _ => if c = 97 ∨ c = 111 then 0 else if c = 101 then 1 else 2
  else -1
/-- how many outlines have n strokes -/
def manyTo : Nat → Int
  | 0 => 1
  | 1 => 24
  | k + 2 => manyTo (k + 1) * 18
def manyOf (n : Int) : Int := if 0 ≤ n ∧ n ≤ 8 then manyTo n.toNat else -1
def stkOk (d s : Int) : Bool := decide (0 ≤ d) && decide (d ≤ 7) && (decide (1 ≤ s) && decide (s ≤ 3))


theorem pos_first {s : ByteArray} {c : UInt8} {l : List UInt8} (hv : wordOk s = true) (hw : vowOf s = c :: l) :
    posOf s = if (c.toNat : Int) = 97 ∨ (c.toNat : Int) = 111 then 0 else if (c.toNat : Int) = 101 then 1 else 2 := by
  have h : ∀ n : UInt8, (c = n) ↔ (c.toNat : Int) = (n.toNat : Int) := fun n => by rw [← UInt8.toNat_inj]; omega
  simp only [posOf, hv, hw, if_true, h]
  rfl

theorem manyTo_le (k : Nat) (h : k ≤ 8) : 1 ≤ manyTo k ∧ manyTo k ≤ 24 * 18 ^ 7 := by
  have : ∀ k ≤ 8, 1 ≤ manyTo k ∧ manyTo k ≤ 24 * 18 ^ 7 := by decide
  exact this k h

end Go.Proofs.YtlpagnbfjechhaaDoor
