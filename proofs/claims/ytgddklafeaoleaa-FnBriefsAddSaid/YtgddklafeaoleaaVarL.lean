/-
  Plain facts on counts of different words. No walk.
-/
import Derived.Test.YtgddklafeaoleaaVaries
namespace Go.Proofs.Ytgddklafeaoleaa
open Go.RowKit
set_option linter.unusedSimpArgs false
set_option linter.unusedVariables false

def diffs (ws : List Str) : Int := diffTo ws ws.length
theorem speechOk_iff {ws : List Str} : speechOk ws = true ↔ ws.length ≤ 20 ∧ ∀ x ∈ ws, wordOk x = true := by
  simp only [speechOk, Bool.and_eq_true, decide_eq_true_eq, allTo_iff]
  constructor
  · rintro ⟨h1, h2⟩
    refine ⟨h1, fun x hx => ?_⟩
    obtain ⟨k, hk⟩ := List.getElem?_of_mem hx
    have := h2 k (List.getElem?_eq_some_iff.1 hk).1
    rwa [strAt_eq hk] at this
  · rintro ⟨h1, h2⟩
    refine ⟨h1, fun i hi => ?_⟩
    obtain ⟨x, hx⟩ := get_lt hi
    rw [strAt_eq hx]
    exact h2 x (List.mem_of_getElem? hx)
theorem hasNo_iff {ws : List Str} {x : Str} : hasNo ws x ws.length = true ↔ x ∉ ws := by
  rw [hasNo, allTo_iff]
  constructor
  · intro h hx
    obtain ⟨k, hk⟩ := List.getElem?_of_mem hx
    have := h k (List.getElem?_eq_some_iff.1 hk).1
    rw [strAt_eq hk] at this
    simp at this
  · intro h i hi
    obtain ⟨y, hy⟩ := get_lt hi
    rw [strAt_eq hy]
    have : y ≠ x := fun e => h (e ▸ List.mem_of_getElem? hy)
    simp [this]
theorem strAt_left {a b : List Str} {k : Nat} (h : k < a.length) : strAt (a ++ b) k = strAt a k := by
  simp [strAt, List.getD, List.getElem?_append_left h]
theorem hasNo_left {a b : List Str} {x : Str} {k : Nat} (h : k ≤ a.length) : hasNo (a ++ b) x k = hasNo a x k :=
  allTo_congr fun i hi => by rw [strAt_left (by omega)]
theorem diff_left {a b : List Str} {n : Nat} (h : n ≤ a.length) : diffTo (a ++ b) n = diffTo a n :=
  sumTo_congr fun i hi => by rw [diffAt, diffAt, strAt_left (by omega), hasNo_left (by omega)]
theorem diff_snoc (ws : List Str) (x : Str) : diffs (ws ++ [x]) = diffs ws + if hasNo ws x ws.length then 1 else 0 := by
  have h1 : diffs (ws ++ [x]) = diffTo (ws ++ [x]) ws.length + diffAt (ws ++ [x]) ws.length := by
    rw [diffs, List.length_append, List.length_singleton]; rfl
  have h2 : strAt (ws ++ [x]) ws.length = x := by simp [strAt, List.getD]
  rw [h1, diff_left (Nat.le_refl _), diffAt, h2, hasNo_left (Nat.le_refl _), ← diffs]
theorem diff_take (a b : List Str) : ∀ k, k ≤ b.length → diffs (a ++ b.take k) ≤ diffs a + diffs (b.take k)
  | 0, _ => by simp [diffs, diffTo, sumTo]
  | k + 1, h => by
    obtain ⟨x, hx⟩ := get_lt (l := b) (k := k) (by omega)
    have ih := diff_take a b k (by omega)
    rw [take_snoc' hx, ← List.append_assoc, diff_snoc, diff_snoc]
    cases hb : hasNo (b.take k) x (b.take k).length
    · have hm : x ∈ b.take k := by
        by_cases h : x ∈ b.take k
        · exact h
        · rw [hasNo_iff.2 h] at hb; cases hb
      have : hasNo (a ++ b.take k) x (a ++ b.take k).length = false := by
        cases h2 : hasNo (a ++ b.take k) x (a ++ b.take k).length
        · rfl
        · exact absurd (List.mem_append.2 (.inr hm)) (hasNo_iff.1 h2)
      rw [this]
      simp
      exact ih
    · simp only [if_true]
      split <;> omega
theorem diff_append (a b : List Str) : diffs (a ++ b) ≤ diffs a + diffs b := by
  have := diff_take a b b.length (Nat.le_refl _)
  rwa [List.take_of_length_le (Nat.le_refl _)] at this
theorem diffs_le (ws : List Str) : 0 ≤ diffs ws ∧ diffs ws ≤ ws.length := diffTo_le ws ws.length
theorem diffs_pos {ws : List Str} (h : ws ≠ []) : 1 ≤ diffs ws := by
  have hl : 1 ≤ ws.length := List.length_pos_iff.2 h
  have h1 : diffTo ws 1 ≤ diffTo ws ws.length := sumTo_mono (fun i => (diffAt_le ws i).1) hl
  have h2 : diffTo ws 1 = 1 := by simp [diffTo, sumTo, diffAt, hasNo, allTo]
  rw [diffs]; omega
theorem diff_twice {ws : List Str} {x : Str} (h : x ∈ ws) : diffs (ws ++ [x]) = diffs ws := by
  have : hasNo ws x ws.length = false := by
    cases h2 : hasNo ws x ws.length
    · rfl
    · exact absurd h (hasNo_iff.1 h2)
  rw [diff_snoc, this]; simp
theorem varies_ok {ws : List Str} (h : speechOk ws = true) : variesOf ws = diffs ws := by rw [variesOf, if_pos h]; rfl
theorem speech_take {ws : List Str} (h : speechOk ws = true) (k : Nat) : speechOk (ws.take k) = true := by
  rw [speechOk_iff] at *
  exact ⟨by rw [List.length_take]; omega, fun x hx => h.2 x (List.mem_of_mem_take hx)⟩
theorem speech_drop {ws : List Str} (h : speechOk ws = true) (k : Nat) : speechOk (ws.drop k) = true := by
  rw [speechOk_iff] at *
  exact ⟨by rw [List.length_drop]; omega, fun x hx => h.2 x (List.mem_of_mem_drop hx)⟩
theorem speech_twice {ws : List Str} {x : Str} (h : speechOk ws = true) (hx : x ∈ ws) (hl : ws.length < 20) : speechOk (ws ++ [x]) = true := by
  rw [speechOk_iff] at *
  refine ⟨by rw [List.length_append]; simp; omega, fun y hy => ?_⟩
  rcases List.mem_append.1 hy with h1 | h1
  · exact h.2 y h1
  · simp at h1; subst h1; exact h.2 _ hx
theorem varies_parts {ws : List Str} (h : speechOk ws = true) (k : Nat) : variesOf ws ≤ variesOf (ws.take k) + variesOf (ws.drop k) := by
  rw [varies_ok h, varies_ok (speech_take h k), varies_ok (speech_drop h k)]
  have := diff_append (ws.take k) (ws.drop k)
  rwa [List.take_append_drop] at this
end Go.Proofs.Ytgddklafeaoleaa
