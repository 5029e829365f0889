/-
  Plain data: strokes, signs, written forms, briefs, as they lie in cells. No program in sight.
-/
import Derived.Test.YtlpagnbfjechhaaDoorBase
namespace Go.Proofs.YtlpagnbfjechhaaDoor
open Go.RowKit

abbrev Str := ByteArray
abbrev Stk := Int × Int
abbrev Sgn := Str × Stk
/-- a slice's address, capacity and elements -/
abbrev Row (α : Type) := Option Addr × Nat × List α
abbrev Wrt := Row Stk × Int
abbrev Brf := Str × Row Str

def rowV {α : Type} (r : Row α) : Value := .slice r.1 r.2.2.length r.2.1
def strC (s : Str) : List Value := [.string s]
def byteC (b : UInt8) : List Value := [.int .u8 (b.toNat : Int)]
def intC (n : Int) : List Value := [.int .i64 n]
def stkC (s : Stk) : List Value := [.int .i64 s.1, .int .i64 s.2]
def sgnC (s : Sgn) : List Value := [.string s.1, .int .i64 s.2.1, .int .i64 s.2.2]
def wrtC (x : Wrt) : List Value := [rowV x.1, .int .i64 x.2]
def brfC (x : Brf) : List Value := [.string x.1, rowV x.2]

def flat {α : Type} (cells : α → List Value) (l : List α) : List Value := l.flatMap cells
theorem flat_nil {α : Type} (cells : α → List Value) : flat cells [] = [] := rfl
theorem flat_cons {α : Type} (cells : α → List Value) (x : α) (l : List α) : flat cells (x :: l) = cells x ++ flat cells l := by simp [flat]
theorem flat_append {α : Type} (cells : α → List Value) (l m : List α) : flat cells (l ++ m) = flat cells l ++ flat cells m := by simp [flat]
theorem flat_snoc {α : Type} (cells : α → List Value) (l : List α) (x : α) : flat cells (l ++ [x]) = flat cells l ++ cells x := by simp [flat]
theorem flat_length {α : Type} {cells : α → List Value} {size : Nat} (hc : ∀ a, (cells a).length = size) (l : List α) : (flat cells l).length = l.length * size := by
  induction l with
  | nil => simp [flat]
  | cons x l ih => rw [flat_cons, List.length_append, hc, ih, List.length_cons, Nat.succ_mul, Nat.add_comm]
theorem flat_take {α : Type} {cells : α → List Value} {size : Nat} (hc : ∀ a, (cells a).length = size) (l : List α) (k : Nat) : (flat cells l).take (k * size) = flat cells (l.take k) := by
  induction l generalizing k with
  | nil => simp [flat]
  | cons x l ih =>
    cases k with
    | zero => simp [flat]
    | succ k => rw [flat_cons, List.take_succ_cons, flat_cons, Nat.succ_mul, Nat.add_comm, List.take_append, List.take_of_length_le (by rw [hc]; omega), hc, Nat.add_sub_cancel_left, ih]
theorem flat_drop {α : Type} {cells : α → List Value} {size : Nat} (hc : ∀ a, (cells a).length = size) (l : List α) (k : Nat) : (flat cells l).drop (k * size) = flat cells (l.drop k) := by
  induction l generalizing k with
  | nil => simp [flat]
  | cons x l ih =>
    cases k with
    | zero => simp [flat]
    | succ k => rw [flat_cons, List.drop_succ_cons, Nat.succ_mul, Nat.add_comm, List.drop_append, List.drop_of_length_le (by rw [hc]; omega), hc, Nat.add_sub_cancel_left, ih, List.nil_append]
theorem flat_get {α : Type} {cells : α → List Value} {size : Nat} (hc : ∀ a, (cells a).length = size) {l : List α} {k j : Nat} {x : α} (hk : l[k]? = some x) (hj : j < size) : (flat cells l)[k * size + j]? = (cells x)[j]? := by
  rw [← List.getElem?_drop, flat_drop hc]
  obtain ⟨h, rfl⟩ := List.getElem?_eq_some_iff.1 hk
  rw [List.drop_eq_getElem_cons h, flat_cons, List.getElem?_append_left (by rw [hc]; exact hj)]
theorem flat_split {α : Type} {cells : α → List Value} {size : Nat} (hc : ∀ a, (cells a).length = size) (hs : 0 < size) {l : List α} {j : Nat} {u : Value} (hu : (flat cells l)[j]? = some u) :
    ∃ x, l[j / size]? = some x ∧ (cells x)[j % size]? = some u := by
  have hlt : j < l.length * size := by
    have := (List.getElem?_eq_some_iff.1 hu).1
    rwa [flat_length hc] at this
  have hk : j / size < l.length := (Nat.div_lt_iff_lt_mul hs).2 hlt
  refine ⟨l[j / size], List.getElem?_eq_getElem hk, ?_⟩
  rw [← flat_get hc (List.getElem?_eq_getElem hk) (Nat.mod_lt _ hs), Nat.div_add_mod', hu]

theorem strC_len (s : Str) : (strC s).length = 1 := rfl
theorem byteC_len (b : UInt8) : (byteC b).length = 1 := rfl
theorem intC_len (n : Int) : (intC n).length = 1 := rfl
theorem stkC_len (s : Stk) : (stkC s).length = 2 := rfl
theorem sgnC_len (s : Sgn) : (sgnC s).length = 3 := rfl
theorem wrtC_len (x : Wrt) : (wrtC x).length = 2 := rfl
theorem brfC_len (x : Brf) : (brfC x).length = 2 := rfl
theorem flat_strC (ws : List Str) : flat strC ws = ws.map Value.string := by
  induction ws with
  | nil => rfl
  | cons x l ih => rw [flat_cons, ih]; rfl
theorem flat_byteC (l : List UInt8) : flat byteC l = l.map byteCell := by
  induction l with
  | nil => rfl
  | cons x l ih => rw [flat_cons, ih]; rfl

theorem get_lt {α : Type} {l : List α} {k : Nat} (h : k < l.length) : ∃ x, l[k]? = some x := ⟨l[k], List.getElem?_eq_getElem h⟩
theorem take_snoc' {α : Type} {l : List α} {k : Nat} {x : α} (h : l[k]? = some x) : l.take (k + 1) = l.take k ++ [x] := by
  obtain ⟨hk, rfl⟩ := List.getElem?_eq_some_iff.1 h
  exact List.take_succ_eq_append_getElem hk

/-! ### conditions and sums over the first numbers -/
def allTo (p : Nat → Bool) : Nat → Bool
  | 0 => true
  | k + 1 => allTo p k && p k
theorem allTo_not {p : Nat → Bool} {k n : Nat} (h : p k = false) (hk : k < n) : allTo p n = false := by
  induction n with
  | zero => omega
  | succ n ih =>
    by_cases e : k = n
    · subst e; simp [allTo, h]
    · simp [allTo, ih (by omega)]
theorem allTo_iff {p : Nat → Bool} {n : Nat} : allTo p n = true ↔ ∀ i, i < n → p i = true := by
  induction n with
  | zero => simp [allTo]
  | succ n ih =>
    simp only [allTo, Bool.and_eq_true, ih]
    constructor
    · rintro ⟨h1, h2⟩ i hi
      by_cases e : i = n
      · subst e; exact h2
      · exact h1 i (by omega)
    · exact fun h => ⟨fun i hi => h i (by omega), h n (by omega)⟩
theorem allTo_congr {p q : Nat → Bool} {n : Nat} (h : ∀ i, i < n → p i = q i) : allTo p n = allTo q n := by
  induction n with
  | zero => rfl
  | succ n ih => simp only [allTo]; rw [ih fun i hi => h i (by omega), h n (by omega)]
theorem allTo_step {p : Nat → Bool} {k : Nat} (h : allTo p k = true) (hk : p k = true) : allTo p (k + 1) = true := by simp [allTo, h, hk]
def sumTo (f : Nat → Int) : Nat → Int
  | 0 => 0
  | k + 1 => sumTo f k + f k
theorem sumTo_mono {f : Nat → Int} {k n : Nat} (h : ∀ i, 0 ≤ f i) (hk : k ≤ n) : sumTo f k ≤ sumTo f n := by
  induction n with
  | zero => obtain rfl : k = 0 := by omega
            exact Int.le_refl _
  | succ n ih =>
    by_cases e : k = n + 1
    · subst e; exact Int.le_refl _
    · have := ih (by omega); have := h n; simp only [sumTo]; omega
theorem sumTo_congr {f g : Nat → Int} {n : Nat} (h : ∀ i, i < n → f i = g i) : sumTo f n = sumTo g n := by
  induction n with
  | zero => rfl
  | succ n ih => simp only [sumTo]; rw [ih fun i hi => h i (by omega), h n (by omega)]
/-- what is left of a size: below 0, or what the sizes leave -/
def Left (left total z : Int) : Prop := z = -1 ∨ (0 ≤ z ∧ z + total = left)

theorem str_ne {x s : Str} (h : ¬ x = s) : (ByteArray.toList x == ByteArray.toList s) = false := by
  rw [ByteArray.toList_eq, ByteArray.toList_eq, beq_eq_false_iff_ne]
  exact fun e => h (str_ext e)
theorem set_snoc {α : Type} (a z : List α) (u : α) (k : Nat) (hk : k = a.length) (hz : 0 < z.length) : (a ++ z).set k u = (a ++ [u]) ++ z.tail := by
  subst hk
  cases z with
  | nil => simp at hz
  | cons x t => simp
end Go.Proofs.YtlpagnbfjechhaaDoor
