/-
  Plain facts: the corners of an outline, bounded and split.
-/
import Derived.Test.YtnoffpicjhcpfaaCorners
namespace Go.Proofs.Ytnoffpicjhcpfaa
open Go.RowKit
set_option linter.unusedSimpArgs false
set_option linter.unusedVariables false

theorem out_at {os : List Stk} (h : outOk os = true) : os.length ≤ 8 ∧ ∀ k, k < os.length → outAt os k = true := by
  simp only [outOk, Bool.and_eq_true, decide_eq_true_eq] at h
  exact ⟨h.1, fun k hk => allTo_iff.1 h.2 k hk⟩
theorem corn_turn {a b : Stk} (ha : stOk a = true) (hb : stOk b = true) (h : turns a b = true) : 1 ≤ cornD a b ∧ cornD a b ≤ 3 := by
  have h1 := stOk_iff.1 ha
  have h2 := stOk_iff.1 hb
  have h3 : ¬ (b.1 - a.1) % 4 = 0 := by simpa [turns] using h
  unfold cornD
  omega
theorem corn_at {os : List Stk} (h : outOk os = true) {k : Nat} (h0 : 0 < k) (hk : k < os.length) : 1 ≤ cornAt os k ∧ cornAt os k ≤ 3 := by
  have h1 := (out_at h).2 k hk
  have h2 := (out_at h).2 (k - 1) (by omega)
  simp only [outAt, Bool.and_eq_true, Bool.or_eq_true] at h1 h2
  have hz : (k == 0) = false := by simp; omega
  rw [hz] at h1
  rw [cornAt, if_neg (by omega)]
  refine corn_turn h2.1 h1.1 ?_
  rcases h1.2 with h3 | h3
  · cases h3
  · exact h3
theorem corn_bound {os : List Stk} (h : outOk os = true) : ∀ k, k ≤ os.length → ((k : Int) - 1 ≤ cornSum os k ∧ 0 ≤ cornSum os k) ∧ (k = 0 → cornSum os k = 0) ∧ (1 ≤ k → cornSum os k ≤ 3 * ((k : Int) - 1)) := by
  intro k
  induction k with
  | zero => intro _; exact ⟨⟨by simp [cornSum, sumTo], by simp [cornSum, sumTo]⟩, fun _ => rfl, fun h => absurd h (by decide)⟩
  | succ k ih =>
    intro hk
    obtain ⟨⟨h1, h1'⟩, h2, h3⟩ := ih (by omega)
    rw [cornSum_step]
    by_cases h0 : k = 0
    · subst h0
      have : cornAt os 0 = 0 := by simp [cornAt]
      rw [h2 rfl, this]
      exact ⟨⟨by simp, by simp⟩, fun h => absurd h (by simp), fun _ => by simp⟩
    · have h4 := corn_at h (by omega : 0 < k) (by omega)
      have h5 := h3 (by omega)
      exact ⟨⟨by push_cast; omega, by omega⟩, fun h => absurd h (by omega), fun _ => by push_cast; omega⟩
theorem corn_of {os : List Stk} (h : outOk os = true) : cornOf os = cornSum os os.length := by rw [cornOf, h]; rfl
theorem stkAt_take {os : List Stk} {k i : Nat} (h : i < k) : stkAt (os.take k) i = stkAt os i := by simp [stkAt, List.getD, List.getElem?_take, h]
theorem stkAt_drop {os : List Stk} {k i : Nat} : stkAt (os.drop k) i = stkAt os (k + i) := by simp [stkAt, List.getD, List.getElem?_drop]
theorem out_take {os : List Stk} (h : outOk os = true) (k : Nat) : outOk (os.take k) = true := by
  obtain ⟨h8, ha⟩ := out_at h
  simp only [outOk, Bool.and_eq_true, decide_eq_true_eq]
  refine ⟨by rw [List.length_take]; omega, allTo_iff.2 fun i hi => ?_⟩
  rw [List.length_take] at hi
  have h1 := ha i (by omega)
  rw [outAt, stkAt_take (by omega : i < k), stkAt_take (by omega : i - 1 < k)]
  exact h1
theorem out_drop {os : List Stk} (h : outOk os = true) (k : Nat) : outOk (os.drop k) = true := by
  obtain ⟨h8, ha⟩ := out_at h
  simp only [outOk, Bool.and_eq_true, decide_eq_true_eq]
  refine ⟨by rw [List.length_drop]; omega, allTo_iff.2 fun i hi => ?_⟩
  rw [List.length_drop] at hi
  have h1 := ha (k + i) (by omega)
  simp only [outAt, Bool.and_eq_true, Bool.or_eq_true] at h1 ⊢
  rw [stkAt_drop, stkAt_drop]
  refine ⟨h1.1, ?_⟩
  by_cases h0 : i = 0
  · exact .inl (by simp [h0])
  · refine .inr ?_
    rcases h1.2 with h3 | h3
    · simp at h3; omega
    · rwa [show k + i - 1 = k + (i - 1) by omega] at h3
theorem sum_take {os : List Stk} {k : Nat} : ∀ j, j ≤ k → cornSum (os.take k) j = cornSum os j
  | 0, _ => rfl
  | j + 1, h => by
    rw [cornSum_step, cornSum_step, sum_take j (by omega)]
    by_cases h0 : j = 0
    · subst h0; simp [cornAt]
    · rw [cornAt, cornAt, if_neg h0, if_neg h0, stkAt_take (by omega), stkAt_take (by omega)]
theorem sum_drop {os : List Stk} {k : Nat} (hk : 0 < k) : ∀ j, 0 < j → cornSum os (k + j) = cornSum os k + cornAt os k + cornSum (os.drop k) j
  | 0, h => absurd h (Nat.lt_irrefl 0)
  | j + 1, _ => by
    rw [← Nat.add_assoc, cornSum_step, cornSum_step]
    by_cases h0 : j = 0
    · subst h0; simp [cornSum, sumTo, cornAt]
    · rw [sum_drop hk j (by omega)]
      have : cornAt os (k + j) = cornAt (os.drop k) j := by
        rw [cornAt, cornAt, if_neg (by omega), if_neg h0, stkAt_drop, stkAt_drop, show k + j - 1 = k + (j - 1) by omega]
      rw [this]; omega
/-- an outline cut in two: the corners of its parts and the one between them -/
theorem corn_split {os : List Stk} (h : outOk os = true) {k : Nat} (h0 : 0 < k) (hk : k < os.length) :
    cornOf os = cornOf (os.take k) + cornOf (os.drop k) + cornOf ((os.drop (k - 1)).take 2) := by
  rw [corn_of h, corn_of (out_take h k), corn_of (out_drop h k), corn_of (out_take (out_drop h (k - 1)) 2)]
  have h1 := sum_drop (os := os) h0 (os.length - k) (by omega)
  rw [show k + (os.length - k) = os.length by omega] at h1
  rw [h1, List.length_take, Nat.min_eq_left (by omega), sum_take k (Nat.le_refl _), List.length_drop, List.length_take, List.length_drop, Nat.min_eq_left (by omega), sum_take 2 (Nat.le_refl _)]
  have h2 : cornSum (os.drop (k - 1)) 2 = cornAt os k := by
    rw [cornSum_step, cornSum_one, cornAt, if_neg (by decide), stkAt_drop, stkAt_drop, cornAt, if_neg (by omega), show k - 1 + (1 - 1) = k - 1 by omega, show k - 1 + 1 = k by omega]
    omega
  rw [h2]; omega
theorem corn_ends (os : List Stk) : cornOf (os.take 0) = 0 ∧ cornOf (os.drop os.length) = 0 := by
  simp [cornOf, outOk, allTo, cornSum, sumTo]
end Go.Proofs.Ytnoffpicjhcpfaa
