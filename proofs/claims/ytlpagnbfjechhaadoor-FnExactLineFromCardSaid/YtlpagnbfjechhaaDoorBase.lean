/-
  Plain definitions and small laws that the walks share: words, strokes, what is gathered by a loop. No program in sight.
-/
import Derived.WalkKit
import Derived.WalkSpells
import Derived.Lib.Hide
namespace Go.Proofs.YtlpagnbfjechhaaDoor
open Go.RowKit

/-! ### what a loop gathers -/
def gather {α : Type} (f : Nat → Option α) : Nat → List α
  | 0 => []
  | k + 1 => gather f k ++ (f k).toList

theorem gather_some {α : Type} {f : Nat → Option α} {k : Nat} {x : α} (h : f k = some x) : gather f (k + 1) = gather f k ++ [x] := by
  simp [gather, h]
theorem gather_none {α : Type} {f : Nat → Option α} {k : Nat} (h : f k = none) : gather f (k + 1) = gather f k := by
  simp [gather, h]
theorem gather_length {α : Type} (f : Nat → Option α) (k : Nat) : (gather f k).length ≤ k := by
  induction k with
  | zero => simp [gather]
  | succ k ih => simp only [gather, List.length_append]; cases f k <;> simp <;> omega
theorem gather_congr {α : Type} {f g : Nat → Option α} {k : Nat} (h : ∀ i, i < k → f i = g i) : gather f k = gather g k := by
  induction k with
  | zero => rfl
  | succ k ih => simp only [gather]; rw [ih (fun i hi => h i (by omega)), h k (by omega)]

/-! ### bytes and words -/
/-- the byte at a place -/
def byteAt (s : ByteArray) (k : Nat) : UInt8 := s.data.toList.getD k 0
theorem byteAt_get (s : ByteArray) (k : Nat) (h : k < s.size) : s[k] = byteAt s k := by
  unfold byteAt
  rw [List.getD_eq_getElem?_getD, List.getElem?_eq_getElem (by simpa using h)]
  rfl
theorem take_snoc (s : ByteArray) (k : Nat) (h : k < s.size) : s.data.toList.take (k + 1) = s.data.toList.take k ++ [s[k]] := by
  rw [List.take_succ_eq_append_getElem (by simpa using h)]; rfl

def letterOk (c : UInt8) : Bool := decide (97 ≤ (c.toNat : Int)) && decide ((c.toNat : Int) ≤ 122)
def lettersOk (l : List UInt8) : Bool := l.all letterOk
def wordOk (s : ByteArray) : Bool := decide (1 ≤ s.size) && decide (s.size ≤ 12) && lettersOk s.data.toList

theorem lettersOk_snoc (s : ByteArray) (k : Nat) (h : k < s.size) (hl : lettersOk (s.data.toList.take k) = true) :
    lettersOk (s.data.toList.take (k + 1)) = letterOk s[k] := by
  rw [take_snoc s k h]
  simp only [lettersOk] at hl
  simp [lettersOk, List.all_append, hl]
theorem lettersOk_not (s : ByteArray) (k : Nat) (h : k < s.size) (hl : letterOk s[k] = false) : lettersOk s.data.toList = false := by
  have e : s.data.toList = s.data.toList.take k ++ s[k] :: s.data.toList.drop (k + 1) := by
    conv => lhs; rw [← List.take_append_drop (k + 1) s.data.toList, take_snoc s k h]
    simp
  rw [e]
  simp [lettersOk, List.all_append, hl]

theorem ret_bool {a b : Bool} (h : a = b) : Ending.returned (.bool a) = .returned (.bool b) := by rw [h]
theorem ret_int {k : IntKind} {a b : Int} (h : a = b) : Ending.returned (.int k a) = .returned (.int k b) := by rw [h]

theorem extract_one (s : ByteArray) (k : Nat) (h : k < s.size) : (s.extract k (k + 1)).data.toList = [byteAt s k] := by
  rw [ByteArray.data_extract, Array.toList_extract, List.extract_eq_take_drop, show k + 1 - k = 1 by omega, byteAt, List.getD_eq_getElem?_getD, List.getElem?_eq_getElem (by simpa using h), Option.getD_some]
  rw [List.drop_eq_getElem_cons (by simpa using h)]
  simp
theorem str_ext {a b : ByteArray} (h : a.data.toList = b.data.toList) : a = b := by
  cases a; cases b; simp at h; simp [h]
theorem str_append (l : List UInt8) (t : ByteArray) : (⟨l.toArray⟩ : ByteArray) ++ t = ⟨(l ++ t.data.toList).toArray⟩ := by
  apply str_ext; simp [ByteArray.data_append]
theorem str_snoc (l : List UInt8) (s : ByteArray) (k : Nat) (h : k < s.size) : (⟨l.toArray⟩ : ByteArray) ++ s.extract k (k + 1) = ⟨(l ++ [byteAt s k]).toArray⟩ := by
  rw [str_append, extract_one s k h]
def byteCell (b : UInt8) : Value := .int .u8 (b.toNat : Int)
def vowel (c : UInt8) : Bool := c == 97 || c == 101 || c == 105 || c == 111 || c == 117

def vowTo (s : ByteArray) : Nat → List UInt8 := gather fun i => if vowel (byteAt s i) then some (byteAt s i) else none
def vowOf (s : ByteArray) : List UInt8 := if wordOk s then vowTo s s.size else []
/-- a letter of the bare form -/
def bareAt (s : ByteArray) (k : Nat) : Bool := !vowel (byteAt s k) && (k == 0 || byteAt s k != byteAt s (k - 1))
def bareTo (s : ByteArray) : Nat → List UInt8 := gather fun i => if bareAt s i then some (byteAt s i) else none
def bareOf (s : ByteArray) : List UInt8 := if wordOk s then bareTo s s.size else []
theorem vowTo_yes {s : ByteArray} {k : Nat} (h : vowel (byteAt s k) = true) : vowTo s (k + 1) = vowTo s k ++ [byteAt s k] := gather_some (by simp [h])
theorem vowTo_no {s : ByteArray} {k : Nat} (h : vowel (byteAt s k) = false) : vowTo s (k + 1) = vowTo s k := gather_none (by simp [h])
theorem bareTo_yes {s : ByteArray} {k : Nat} (h : bareAt s k = true) : bareTo s (k + 1) = bareTo s k ++ [byteAt s k] := gather_some (by simp [h])
theorem bareTo_no {s : ByteArray} {k : Nat} (h : bareAt s k = false) : bareTo s (k + 1) = bareTo s k := gather_none (by simp [h])
theorem wordOk_size {s : ByteArray} (h : wordOk s = true) : 1 ≤ s.size ∧ s.size ≤ 12 := by
  simp [wordOk] at h; omega
end Go.Proofs.YtlpagnbfjechhaaDoor
