/-
  Plain facts on clashes: pairs counted from either side; fewer words, no more clashes.
-/
import Derived.Test.YtoidjdbhdkbfhaaClash
namespace Go.Proofs.Ytoidjdbhdkbfhaa
open Go.RowKit Go.Sort
set_option linter.unusedSimpArgs false
set_option linter.unusedVariables false

/-- two words meet: both are written, by one outline -/
def meet (ss : List Sgn) (a b : Str) : Int := if woOk ss a && woOk ss b && decide (woOf ss b = woOf ss a) then 1 else 0
theorem meet_01 (ss : List Sgn) (a b : Str) : 0 ≤ meet ss a b ∧ meet ss a b ≤ 1 := by unfold meet; split <;> omega
theorem meet_comm (ss : List Sgn) (a b : Str) : meet ss a b = meet ss b a := by
  unfold meet
  have e : (woOk ss a && woOk ss b && decide (woOf ss b = woOf ss a)) = (woOk ss b && woOk ss a && decide (woOf ss a = woOf ss b)) := by
    rw [Bool.eq_iff_iff]
    simp only [Bool.and_eq_true, decide_eq_true_eq]
    constructor <;> rintro ⟨⟨h1, h2⟩, h3⟩ <;> exact ⟨⟨h2, h1⟩, h3.symm⟩
  rw [e]
def row (ss : List Sgn) (ws : List Str) (s : Str) (k : Nat) : Int := sumTo (fun j => meet ss s (strAt ws j)) k
theorem row_read {ss : List Sgn} {ws : List Str} {s : Str} (h : woOk ss s = true) (k : Nat) : row ss ws s k = ((readTo ss ws (woOf ss s) k).length : Int) := by
  induction k with
  | zero => rfl
  | succ k ih =>
    have h0 : row ss ws s (k + 1) = row ss ws s k + meet ss s (strAt ws k) := rfl
    rw [h0, ih]
    cases h1 : woOk ss (strAt ws k)
    · rw [readTo_no rfl (.inl h1)]; simp [meet, h1]
    · by_cases h2 : woOf ss (strAt ws k) = woOf ss s
      · rw [readTo_yes rfl h1 h2, List.length_append]; simp [meet, h, h1, h2]
      · rw [readTo_no rfl (.inr h2)]; simp [meet, h1, h2]
theorem row_no {ss : List Sgn} {ws : List Str} {s : Str} (h : woOk ss s = false) (k : Nat) : row ss ws s k = 0 := by
  induction k with
  | zero => rfl
  | succ k ih =>
    have h0 : row ss ws s (k + 1) = row ss ws s k + meet ss s (strAt ws k) := rfl
    rw [h0, ih, meet, h]; rfl
theorem hits_row (ss : List Sgn) (ws : List Str) (i : Nat) : hitsAt ss ws i = row ss ws (strAt ws i) i := by
  unfold hitsAt
  cases h : woOk ss (strAt ws i)
  · rw [row_no h]; simp
  · rw [row_read h]; simp
/-- what the law adds up -/
def sumAt (ss : List Sgn) (ws : List Str) (n i : Nat) : Int := if woOk ss (strAt ws i) then ((readTo ss ws (woOf ss (strAt ws i)) n).length : Int) - 1 else 0
theorem sumAt_row (ss : List Sgn) (ws : List Str) (n i : Nat) : sumAt ss ws n i = row ss ws (strAt ws i) n - meet ss (strAt ws i) (strAt ws i) := by
  unfold sumAt
  cases h : woOk ss (strAt ws i)
  · rw [row_no h]; simp [meet, h]
  · rw [row_read h]; simp [meet, h]
def tw (ss : List Sgn) (ws : List Str) (n k : Nat) : Int := sumTo (fun i => row ss ws (strAt ws i) n - meet ss (strAt ws i) (strAt ws i)) k
theorem sumTo_add {f g : Nat → Int} (n : Nat) : sumTo (fun i => f i + g i) n = sumTo f n + sumTo g n := by
  induction n with
  | zero => rfl
  | succ n ih => simp only [sumTo]; rw [ih]; omega
theorem twice_clash (ss : List Sgn) (ws : List Str) (n : Nat) : tw ss ws n n = 2 * clashTo ss ws n := by
  induction n with
  | zero => rfl
  | succ n ih =>
    have h1 : tw ss ws (n + 1) (n + 1) = tw ss ws (n + 1) n + (row ss ws (strAt ws n) (n + 1) - meet ss (strAt ws n) (strAt ws n)) := rfl
    have h2 : row ss ws (strAt ws n) (n + 1) = row ss ws (strAt ws n) n + meet ss (strAt ws n) (strAt ws n) := rfl
    have h3 : tw ss ws (n + 1) n = tw ss ws n n + row ss ws (strAt ws n) n := by
      have : tw ss ws (n + 1) n = sumTo (fun i => (row ss ws (strAt ws i) n - meet ss (strAt ws i) (strAt ws i)) + meet ss (strAt ws n) (strAt ws i)) n := by
        refine sumTo_congr fun i hi => ?_
        have : row ss ws (strAt ws i) (n + 1) = row ss ws (strAt ws i) n + meet ss (strAt ws i) (strAt ws n) := rfl
        rw [this, meet_comm ss (strAt ws i) (strAt ws n)]; omega
      rw [this, sumTo_add]; rfl
    have h4 : clashTo ss ws (n + 1) = clashTo ss ws n + hitsAt ss ws n := rfl
    rw [h1, h2, h3, ih, h4, hits_row]; omega
theorem sum_clash (ss : List Sgn) (ws : List Str) : sumTo (sumAt ss ws ws.length) ws.length = 2 * clashTo ss ws ws.length := by
  rw [← twice_clash]
  exact sumTo_congr fun i _ => sumAt_row ss ws ws.length i
theorem sum_bd (ss : List Sgn) (ws : List Str) (n k : Nat) : -(k : Int) ≤ sumTo (sumAt ss ws n) k ∧ sumTo (sumAt ss ws n) k ≤ n * k := by
  induction k with
  | zero => simp [sumTo]
  | succ k ih =>
    have h : -1 ≤ sumAt ss ws n k ∧ sumAt ss ws n k ≤ n := by
      unfold sumAt
      split
      · have := readTo_len ss ws (woOf ss (strAt ws k)) n; omega
      · omega
    simp only [sumTo]
    have e : (n : Int) * ((k + 1 : Nat) : Int) = n * k + n := by rw [Int.natCast_add, Int.mul_add]; simp
    omega

/-! ### fewer words -/
def cnt (ss : List Sgn) (ws : List Str) (s : Str) : Int := row ss ws s ws.length
def pairsC (ss : List Sgn) (ws : List Str) : Int := clashTo ss ws ws.length
theorem strAt_l {a b : List Str} {k : Nat} (h : k < a.length) : strAt (a ++ b) k = strAt a k := by simp [strAt, List.getD, List.getElem?_append_left h]
theorem row_l {ss : List Sgn} {a b : List Str} {s : Str} {n : Nat} (h : n ≤ a.length) : row ss (a ++ b) s n = row ss a s n := sumTo_congr fun i hi => by rw [strAt_l (by omega)]
theorem clash_l {ss : List Sgn} {a b : List Str} {n : Nat} (h : n ≤ a.length) : clashTo ss (a ++ b) n = clashTo ss a n := sumTo_congr fun i hi => by rw [hits_row, hits_row, strAt_l (by omega), row_l (by omega)]
theorem strAt_last (a : List Str) (x : Str) : strAt (a ++ [x]) a.length = x := by simp [strAt, List.getD]
theorem cnt_snoc (ss : List Sgn) (a : List Str) (x s : Str) : cnt ss (a ++ [x]) s = cnt ss a s + meet ss s x := by
  have h : cnt ss (a ++ [x]) s = row ss (a ++ [x]) s a.length + meet ss s (strAt (a ++ [x]) a.length) := by
    rw [cnt, List.length_append, List.length_singleton]; rfl
  rw [h, row_l (Nat.le_refl _), strAt_last]; rfl
theorem pairs_snoc (ss : List Sgn) (a : List Str) (x : Str) : pairsC ss (a ++ [x]) = pairsC ss a + cnt ss a x := by
  have h : pairsC ss (a ++ [x]) = clashTo ss (a ++ [x]) a.length + hitsAt ss (a ++ [x]) a.length := by
    rw [pairsC, List.length_append, List.length_singleton]; rfl
  rw [h, clash_l (Nat.le_refl _), hits_row, strAt_last, row_l (Nat.le_refl _)]; rfl
theorem cnt_nonneg (ss : List Sgn) (a : List Str) (s : Str) : 0 ≤ cnt ss a s := by
  have h := sumTo_mono (f := fun j => meet ss s (strAt a j)) (k := 0) (n := a.length) (fun i => (meet_01 ss s _).1) (Nat.zero_le _)
  exact h
theorem fewer (ss : List Sgn) (a : List Str) (x : Str) (b : List Str) : ∀ k, k ≤ b.length → pairsC ss (a ++ b.take k) ≤ pairsC ss (a ++ [x] ++ b.take k) ∧ ∀ s, cnt ss (a ++ b.take k) s ≤ cnt ss (a ++ [x] ++ b.take k) s
  | 0, _ => by
    simp only [List.take_zero, List.append_nil]
    refine ⟨by rw [pairs_snoc]; have := cnt_nonneg ss a x; omega, fun s => ?_⟩
    rw [cnt_snoc]; have := (meet_01 ss s x).1; omega
  | k + 1, h => by
    obtain ⟨y, hy⟩ := get_lt (l := b) (k := k) (by omega)
    obtain ⟨h1, h2⟩ := fewer ss a x b k (by omega)
    rw [take_snoc' hy, ← List.append_assoc, ← List.append_assoc]
    refine ⟨?_, fun s => ?_⟩
    · rw [pairs_snoc, pairs_snoc]; have := h2 y; omega
    · rw [cnt_snoc, cnt_snoc]; have := h2 s; omega
theorem rest_le {ss : List Sgn} {ws : List Str} {k : Nat} {x : Str} (hx : ws[k]? = some x) (hb : bothOk ss ws = true) : clashOf ss (ws.take k ++ ws.drop (k + 1)) ≤ clashOf ss ws := by
  have h0 := (clashTo_le ss ws ws.length).1
  have hC : clashOf ss ws = pairsC ss ws := by rw [clashOf, if_pos hb]; rfl
  have hf := (fewer ss (ws.take k) x (ws.drop (k + 1)) (ws.drop (k + 1)).length (Nat.le_refl _)).1
  rw [List.take_of_length_le (Nat.le_refl _)] at hf
  have hw : ws.take k ++ [x] ++ ws.drop (k + 1) = ws := by rw [← take_snoc' hx, List.take_append_drop]
  rw [hw] at hf
  cases h : bothOk ss (ws.take k ++ ws.drop (k + 1))
  · have hn : clashOf ss (ws.take k ++ ws.drop (k + 1)) = -1 := by rw [clashOf, h]; rfl
    rw [hn, hC, pairsC]; omega
  · have hy : clashOf ss (ws.take k ++ ws.drop (k + 1)) = pairsC ss (ws.take k ++ ws.drop (k + 1)) := by rw [clashOf, if_pos h]; rfl
    rw [hy, hC]; exact hf
end Go.Proofs.Ytoidjdbhdkbfhaa
