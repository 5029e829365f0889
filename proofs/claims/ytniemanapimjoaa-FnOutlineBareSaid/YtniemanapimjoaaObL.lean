/-
  Plain facts: the word that an outline spells.
-/
import Derived.Test.YtniemanapimjoaaDrawA
import Derived.Test.YtniemanapimjoaaSysL
namespace Go.Proofs.Ytniemanapimjoaa
open Go.RowKit Go.Sort
set_option linter.unusedSimpArgs false
set_option linter.unusedVariables false

theorem ob_parts {ss : List Sgn} {os : List Stk} (h : obOk ss os = true) : sysOk ss = true ∧ outOk os = true ∧ allBy ss os os.length = true ∧ obOf ss os = ⟨(letsBy ss os os.length).toArray⟩ := by
  have h0 := h
  simp only [obOk, Bool.and_eq_true] at h0
  exact ⟨h0.1.1, h0.1.2, h0.2, by rw [obOf, if_pos h]⟩
theorem ob_size {ss : List Sgn} {os : List Stk} (h : obOk ss os = true) : (obOf ss os).size = os.length := by
  rw [(ob_parts h).2.2.2]
  show (letsBy ss os os.length).toArray.size = _
  simp [letsBy_len]
theorem ob_at {ss : List Sgn} {os : List Stk} (h : obOk ss os = true) {i : Nat} (hi : i < os.length) :
    letterOk (byteAt (obOf ss os) i) = true ∧ vowel (byteAt (obOf ss os) i) = false ∧ stkL ss (byteAt (obOf ss os) i) = some (stkAt os i) ∧ strokeOf ss (oneS (byteAt (obOf ss os) i)) = some (stkAt os i) := by
  obtain ⟨hs, ho, ha, he⟩ := ob_parts h
  have h1 := allTo_iff.1 ha i hi
  obtain ⟨y, hy⟩ := Option.isSome_iff_exists.1 h1
  have hym := List.mem_of_find?_eq_some hy
  have hyst : y.2 = stkAt os i := by simpa using List.find?_some hy
  have hb : byteAt (obOf ss os) i = byteAt y.1 0 := by
    have h2 : letBy ss (stkAt os i) = byteAt y.1 0 := by rw [letBy, hy]
    rw [he, ← h2]
    simp [byteAt, letsBy, hi]
  obtain ⟨_, hone, hl, hv, _⟩ := sys_mem hs hym
  rw [hb]
  have hin := strokeIn_mem hs hym
  have hof := strokeOf_mem hs hym
  rw [hyst] at hin hof
  refine ⟨hl, hv, ?_, ?_⟩
  · rw [stkL, ← hone]; exact hin
  · rw [← hone]; exact hof
theorem ob_turn {ss : List Sgn} {os : List Stk} (h : obOk ss os = true) {i : Nat} (h0 : 0 < i) (hi : i < os.length) : byteAt (obOf ss os) i ≠ byteAt (obOf ss os) (i - 1) := by
  intro e
  have h1 := (ob_at h hi).2.2.1
  have h2 := (ob_at h (i := i - 1) (by omega)).2.2.1
  rw [e, h2] at h1
  injection h1 with h1
  have ho := (ob_parts h).2.1
  simp only [outOk, Bool.and_eq_true] at ho
  have h3 := allTo_iff.1 ho.2 i hi
  simp only [outAt, Bool.and_eq_true, Bool.or_eq_true] at h3
  have h4 := h3.2
  rw [h1] at h4
  have hz : (i == 0) = false := by simp; omega
  rw [hz] at h4
  simp [turns] at h4
theorem ob_word {ss : List Sgn} {os : List Stk} (h : obOk ss os = true) (h0 : 0 < os.length) : woOk ss (obOf ss os) = true ∧ woOf ss (obOf ss os) = os := by
  obtain ⟨hs, ho, ha, _⟩ := ob_parts h
  have hsz := ob_size h
  have hat := fun i (hi : i < os.length) => ob_at h hi
  have htu := fun i h0 (hi : i < os.length) => ob_turn h (i := i) h0 hi
  have h8 : os.length ≤ 8 := by
    have h1 := ho
    simp only [outOk, Bool.and_eq_true, decide_eq_true_eq] at h1
    exact h1.1
  generalize obOf ss os = out at *
  have hw : wordOk out = true := by
    simp only [wordOk, Bool.and_eq_true, decide_eq_true_eq]
    refine ⟨⟨by omega, by omega⟩, ?_⟩
    rw [lettersOk, List.all_eq_true]
    intro b hb
    obtain ⟨i, hi, e⟩ := List.getElem_of_mem hb
    have hi' : i < out.size := hi
    have e2 : byteAt out i = b := by rw [byteAt, List.getD_eq_getElem?_getD, List.getElem?_eq_getElem hi, e]; rfl
    rw [← e2]
    exact (hat i (by omega)).1
  have hb : ∀ k, k ≤ os.length → bareTo out k = (List.range k).map (byteAt out) := by
    intro k
    induction k with
    | zero => intro _; rfl
    | succ k ih =>
      intro hk
      have h1 : bareAt out k = true := by
        simp only [bareAt, Bool.and_eq_true, Bool.or_eq_true]
        refine ⟨by rw [(hat k (by omega)).2.1]; rfl, ?_⟩
        by_cases hk0 : k = 0
        · exact .inl (by simp [hk0])
        · exact .inr (by simpa using htu k (by omega) (by omega))
      rw [bareTo_yes h1, ih (by omega), List.range_succ, List.map_append]; rfl
  have hbo : bareOf out = (List.range os.length).map (byteAt out) := by rw [bareOf, if_pos hw, hsz, hb _ (Nat.le_refl _)]
  have hbl : (bareOf out).length = os.length := by rw [hbo]; simp
  have hbg : ∀ i, i < os.length → (bareOf out).getD i 0 = byteAt out i := by
    intro i hi
    rw [hbo, List.getD_eq_getElem?_getD, List.getElem?_map, List.getElem?_range hi]; rfl
  have hst : stksL ss (bareOf out) os.length = os := by
    apply List.ext_getElem?
    intro i
    by_cases hi : i < os.length
    · rw [stksL, List.getElem?_map, List.getElem?_range hi]
      show some (stkOr (stkL ss ((bareOf out).getD i 0))) = _
      rw [hbg i hi, (hat i hi).2.2.1, List.getElem?_eq_getElem hi]
      show some (stkAt os i) = _
      rw [stkAt_eq (List.getElem?_eq_getElem hi)]
    · rw [List.getElem?_eq_none (by rw [stksL_len]; omega), List.getElem?_eq_none (by omega)]
  have hk : woOk ss out = true := by
    rw [woOk, hs, hw, hbl, hst, ho]
    have : hasL ss (bareOf out) os.length = true := allTo_iff.2 fun i hi => by rw [hbg i hi, (hat i hi).2.2.1]; rfl
    rw [this]; rfl
  exact ⟨hk, by rw [woOf, if_pos hk, hbl, hst]⟩
end Go.Proofs.Ytniemanapimjoaa
