/-
  Plain facts on written words of a dictionary; a system with a further sign.
-/
import Derived.Test.YtbcbpcidfcjibaaDict
import Derived.Test.YtbcbpcidfcjibaaAdd
namespace Go.Proofs.Ytbcbpcidfcjibaa
open Go.RowKit Go.Sort
set_option linter.unusedSimpArgs false
set_option linter.unusedVariables false

theorem idxs_mem {ss : List Sgn} {ws : List Str} {n : Nat} {v : Int} : v ∈ idxs (writTo ss ws n) ↔ ∃ i : Nat, i < n ∧ v = i ∧ woOk ss (strAt ws i) = true := by
  induction n with
  | zero => simp [idxs, writTo, gather]
  | succ n ih =>
    cases h : woOk ss (strAt ws n)
    · rw [writTo_no rfl h, ih]
      constructor
      · rintro ⟨i, h1, h2, h3⟩; exact ⟨i, by omega, h2, h3⟩
      · rintro ⟨i, h1, h2, h3⟩
        by_cases e : i = n
        · subst e; rw [h] at h3; cases h3
        · exact ⟨i, by omega, h2, h3⟩
    · rw [writTo_yes rfl h, idxs, List.map_append, List.mem_append, ← idxs, ih]
      constructor
      · rintro (⟨i, h1, h2, h3⟩ | h1)
        · exact ⟨i, by omega, h2, h3⟩
        · simp at h1; exact ⟨n, by omega, h1, h⟩
      · rintro ⟨i, h1, h2, h3⟩
        by_cases e : i = n
        · subst e; right; simp [h2]
        · exact .inl ⟨i, by omega, h2, h3⟩
theorem writ_both {ss : List Sgn} {ws : List Str} (h : idxs (writOf ss ws) ≠ []) : bothOk ss ws = true ∧ writOf ss ws = writTo ss ws ws.length := by
  cases hb : bothOk ss ws
  · exact absurd (by rw [writOf, hb]; rfl) h
  · exact ⟨rfl, by rw [writOf, hb]; rfl⟩
theorem writ_mem {ss : List Sgn} {ws : List Str} (h : bothOk ss ws = true) {v : Int} : v ∈ idxs (writOf ss ws) ↔ ∃ i : Nat, i < ws.length ∧ v = i ∧ woOk ss (strAt ws i) = true := by
  rw [writOf, if_pos h]; exact idxs_mem
theorem strokeIn_more {ss : List Sgn} {x : Sgn} {l : Str} {st : Stk} (h : strokeIn ss l = some st) : strokeIn (ss ++ [x]) l = some st := by
  simp only [strokeIn, Option.map_eq_some_iff] at h ⊢
  obtain ⟨y, hy, h2⟩ := h
  exact ⟨y, by rw [List.find?_append, hy]; rfl, h2⟩
theorem stkL_more {ss : List Sgn} {x : Sgn} {b : UInt8} (h : (stkL ss b).isSome = true) : stkL (ss ++ [x]) b = stkL ss b := by
  obtain ⟨st, hst⟩ := Option.isSome_iff_exists.1 h
  rw [hst]; exact strokeIn_more hst
theorem wo_more {ss : List Sgn} {x : Sgn} {s : Str} (hs : sysOk (ss ++ [x]) = true) (h : woOk ss s = true) : woOk (ss ++ [x]) s = true ∧ woOf (ss ++ [x]) s = woOf ss s := by
  have h0 := h
  simp only [woOk, Bool.and_eq_true] at h0
  obtain ⟨⟨⟨_, hw⟩, hl⟩, ho⟩ := h0
  have hall := allTo_iff.1 hl
  have hl2 : hasL (ss ++ [x]) (bareOf s) (bareOf s).length = true := allTo_iff.2 fun i hi => by rw [stkL_more (hall i hi)]; exact hall i hi
  have hs2 : stksL (ss ++ [x]) (bareOf s) (bareOf s).length = stksL ss (bareOf s) (bareOf s).length := by
    simp only [stksL]
    apply List.map_congr_left
    intro i hi
    rw [stkL_more (hall i (List.mem_range.1 hi))]
  have hk : woOk (ss ++ [x]) s = true := by rw [woOk, hs, hw, hl2, hs2, ho]; rfl
  exact ⟨hk, by rw [woOf, if_pos hk, hs2, woOf, if_pos h]⟩
theorem add_more {ss : List Sgn} {x : Sgn} (h : addOk ss x = true) : sysOk (added ss x) = true ∧ ∀ s, woOk ss s = true → woOk (added ss x) s = true := by
  have : added ss x = ss ++ [x] := by rw [added, if_pos h]
  rw [this]
  exact ⟨h, fun s hs => (wo_more h hs).1⟩
theorem added_oks {ss : List Sgn} {x : Sgn} (ho : OkSgns ss) (hx : x.1.size ≤ maxLen) : OkSgns (added ss x) := by
  intro y hy
  unfold added at hy
  split at hy
  · rcases List.mem_append.1 hy with h | h
    · exact ho y h
    · simp at h; subst h; exact hx
  · simp at hy
end Go.Proofs.Ytbcbpcidfcjibaa
