/-
  Plain laws of words: bare forms, vowels, positions; a vowel ahead of a word. No program in sight.
-/
import Derived.Test.YtlpagnbfjechhaaDoorData
namespace Go.Proofs.YtlpagnbfjechhaaDoor
open Go.RowKit
set_option linter.unusedSimpArgs false

theorem gather_mem {α : Type} {f : Nat → Option α} {k : Nat} {x : α} (h : x ∈ gather f k) : ∃ i, i < k ∧ f i = some x := by
  induction k with
  | zero => simp [gather] at h
  | succ k ih =>
    simp only [gather, List.mem_append] at h
    rcases h with h | h
    · obtain ⟨i, hi, hx⟩ := ih h; exact ⟨i, by omega, hx⟩
    · exact ⟨k, by omega, by simpa using h⟩
theorem gather_empty {α : Type} {f : Nat → Option α} {k : Nat} (h : ∀ i, i < k → f i = none) : gather f k = [] := by
  induction k with
  | zero => rfl
  | succ k ih => rw [gather_none (h k (by omega)), ih fun i hi => h i (by omega)]
theorem gather_full {α : Type} {f : Nat → Option α} {k : Nat} {l : List α} (hl : l.length = k) (h : ∀ i (hi : i < k), f i = some (l[i]'(by omega))) : gather f k = l := by
  induction k generalizing l with
  | zero => simp [gather, List.eq_nil_of_length_eq_zero hl]
  | succ k ih =>
    rw [gather_some (h k (by omega)), ih (l := l.take k) (by simp; omega) (fun i hi => by rw [h i (by omega)]; simp)]
    rw [← List.take_succ_eq_append_getElem, List.take_of_length_le (by omega)]
theorem gather_shift {α : Type} (f : Nat → Option α) (k : Nat) : gather f (k + 1) = (f 0).toList ++ gather (fun i => f (i + 1)) k := by
  induction k with
  | zero => simp [gather]
  | succ k ih => rw [gather, ih, List.append_assoc]; rfl

theorem byteAt_mk (l : List UInt8) (i : Nat) (h : i < l.length) : byteAt ⟨l.toArray⟩ i = l[i] := by
  simp [byteAt, List.getD, List.getElem?_eq_getElem h]
theorem size_mk (l : List UInt8) : (⟨l.toArray⟩ : ByteArray).size = l.length := by simp [ByteArray.size]
theorem word_letter {s : ByteArray} (h : wordOk s = true) {i : Nat} (hi : i < s.size) : letterOk (byteAt s i) = true := by
  simp only [wordOk, Bool.and_eq_true] at h
  have := List.all_eq_true.1 h.2 (byteAt s i) (by rw [← byteAt_get s i hi]; exact List.getElem_mem (by simpa using hi))
  exact this
theorem wordOk_mk {l : List UInt8} (h0 : l ≠ []) (h1 : l.length ≤ 12) (h2 : ∀ c ∈ l, letterOk c = true) : wordOk ⟨l.toArray⟩ = true := by
  have h0' : 1 ≤ l.length := List.length_pos_iff.2 h0
  simp only [wordOk, Bool.and_eq_true, decide_eq_true_eq, size_mk]
  exact ⟨⟨h0', h1⟩, List.all_eq_true.2 h2⟩

theorem vow_mem {s : ByteArray} {c : UInt8} (h : c ∈ vowOf s) : vowel c = true ∧ wordOk s = true ∧ ∃ i, i < s.size ∧ byteAt s i = c := by
  unfold vowOf at h
  split at h
  · rename_i hw
    obtain ⟨i, hi, hx⟩ := gather_mem h
    split at hx
    · rename_i hv
      injection hx with hx
      subst hx
      exact ⟨hv, hw, i, hi, rfl⟩
    · cases hx
  · cases h
theorem bare_mem {s : ByteArray} {c : UInt8} (h : c ∈ bareOf s) : vowel c = false ∧ wordOk s = true ∧ ∃ i, i < s.size ∧ byteAt s i = c := by
  unfold bareOf at h
  split at h
  · rename_i hw
    obtain ⟨i, hi, hx⟩ := gather_mem h
    split at hx
    · rename_i hv
      injection hx with hx
      subst hx
      simp [bareAt] at hv
      exact ⟨hv.1, hw, i, hi, rfl⟩
    · cases hx
  · cases h
theorem vow_len (s : ByteArray) : (vowOf s).length ≤ s.size := by
  unfold vowOf; split
  · exact gather_length _ _
  · simp
theorem bare_len (s : ByteArray) : (bareOf s).length ≤ s.size := by
  unfold bareOf; split
  · exact gather_length _ _
  · simp
theorem bare_word {s : ByteArray} (h : bareOf s ≠ []) : wordOk s = true := by
  unfold bareOf at h
  split at h
  · assumption
  · exact absurd rfl h
theorem vow_word {s : ByteArray} (h : vowOf s ≠ []) : wordOk s = true := by
  unfold vowOf at h
  split at h
  · assumption
  · exact absurd rfl h
theorem bare_ok {s : ByteArray} (h : bareOf s ≠ []) : wordOk ⟨(bareOf s).toArray⟩ = true := by
  have hw := bare_word h
  refine wordOk_mk h (Nat.le_trans (bare_len s) (wordOk_size hw).2) fun c hc => ?_
  obtain ⟨_, _, i, hi, rfl⟩ := bare_mem hc
  exact word_letter hw hi
theorem vow_ok {s : ByteArray} (h : vowOf s ≠ []) : wordOk ⟨(vowOf s).toArray⟩ = true := by
  have hw := vow_word h
  refine wordOk_mk h (Nat.le_trans (vow_len s) (wordOk_size hw).2) fun c hc => ?_
  obtain ⟨_, _, i, hi, rfl⟩ := vow_mem hc
  exact word_letter hw hi
theorem vow_bare (s : ByteArray) : vowOf ⟨(bareOf s).toArray⟩ = [] := by
  unfold vowOf
  split
  · refine gather_empty fun i hi => ?_
    rw [size_mk] at hi
    rw [byteAt_mk _ _ hi, (bare_mem (List.getElem_mem hi)).1]
    rfl
  · rfl
theorem bare_vow (s : ByteArray) : bareOf ⟨(vowOf s).toArray⟩ = [] := by
  unfold bareOf
  split
  · refine gather_empty fun i hi => ?_
    rw [size_mk] at hi
    have : bareAt ⟨(vowOf s).toArray⟩ i = false := by simp [bareAt, byteAt_mk _ _ hi, (vow_mem (List.getElem_mem hi)).1]
    rw [this]
    rfl
  · rfl
theorem vow_vow (s : ByteArray) : vowOf ⟨(vowOf s).toArray⟩ = vowOf s := by
  by_cases h : vowOf s = []
  · rw [h]; rfl
  · conv => lhs; rw [vowOf, vow_ok h, if_pos rfl]
    refine gather_full (by rw [size_mk]) fun i hi => ?_
    rw [size_mk] at hi
    rw [byteAt_mk _ _ hi, (vow_mem (List.getElem_mem hi)).1, if_pos rfl]
theorem both_len (s : ByteArray) : (bareOf s).length + (vowOf s).length ≤ s.size := by
  unfold bareOf vowOf
  split
  · have : ∀ k, (bareTo s k).length + (vowTo s k).length ≤ k := by
      intro k
      induction k with
      | zero => simp [bareTo, vowTo, gather]
      | succ k ih =>
        cases hv : vowel (byteAt s k)
        · rw [vowTo_no hv]
          have : (bareTo s (k + 1)).length ≤ (bareTo s k).length + 1 := by
            cases hb : bareAt s k
            · rw [bareTo_no hb]; omega
            · rw [bareTo_yes hb]; simp
          omega
        · rw [vowTo_yes hv, bareTo_no (by simp [bareAt, hv])]
          simp
          omega
    exact this _
  · simp

/-! ### a vowel ahead -/
def ahead (c : UInt8) (s : ByteArray) : ByteArray := (⟨#[c]⟩ : ByteArray) ++ s
theorem ahead_list (c : UInt8) (s : ByteArray) : (ahead c s).data.toList = c :: s.data.toList := by simp [ahead, ByteArray.data_append]
theorem ahead_size (c : UInt8) (s : ByteArray) : (ahead c s).size = s.size + 1 := by
  rw [← ByteArray.size_data, ← Array.length_toList, ahead_list]; simp
theorem ahead_zero (c : UInt8) (s : ByteArray) : byteAt (ahead c s) 0 = c := by simp [byteAt, ahead_list]
theorem ahead_succ (c : UInt8) (s : ByteArray) (i : Nat) : byteAt (ahead c s) (i + 1) = byteAt s i := by simp [byteAt, ahead_list]
theorem ahead_ok {c : UInt8} {s : ByteArray} (hw : wordOk s = true) (hs : s.size ≤ 11) (hc : letterOk c = true) : wordOk (ahead c s) = true := by
  simp only [wordOk, Bool.and_eq_true, decide_eq_true_eq] at hw ⊢
  rw [ahead_size, ahead_list]
  refine ⟨⟨by omega, by omega⟩, ?_⟩
  simp only [lettersOk, List.all_cons, hc, Bool.true_and]
  exact hw.2
theorem ahead_vow {c : UInt8} {s : ByteArray} (hw : wordOk s = true) (hs : s.size ≤ 11) (hc : letterOk c = true) (hv : vowel c = true) : vowOf (ahead c s) = c :: vowOf s := by
  rw [vowOf, if_pos (ahead_ok hw hs hc), vowOf, if_pos hw, ahead_size, vowTo, gather_shift]
  simp only [ahead_zero, hv, ahead_succ]
  rfl
theorem ahead_bare {c : UInt8} {s : ByteArray} (hw : wordOk s = true) (hs : s.size ≤ 11) (hc : letterOk c = true) (hv : vowel c = true) : bareOf (ahead c s) = bareOf s := by
  rw [bareOf, if_pos (ahead_ok hw hs hc), bareOf, if_pos hw, ahead_size, bareTo, gather_shift]
  have h0 : bareAt (ahead c s) 0 = false := by simp [bareAt, ahead_zero, hv]
  rw [h0]
  refine (List.nil_append _).trans (gather_congr fun i _ => ?_)
  have : bareAt (ahead c s) (i + 1) = bareAt s i := by
    cases i with
    | zero =>
      simp only [bareAt, ahead_succ, Nat.zero_add, Nat.sub_self, ahead_zero]
      cases hb : vowel (byteAt s 0)
      · have : byteAt s 0 ≠ c := fun e => by rw [e, hv] at hb; cases hb
        simp [this]
      · simp
    | succ i => simp [bareAt, ahead_succ]
  rw [this, ahead_succ]
end Go.Proofs.YtlpagnbfjechhaaDoor
