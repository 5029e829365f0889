/-
  Plain facts for the laws of systems: letters lead to strokes and back.
-/
import Derived.Test.YtbcbpcidfcjibaaBare
import Derived.Test.YtbcbpcidfcjibaaTxt
namespace Go.Proofs.Ytbcbpcidfcjibaa
open Go.RowKit Go.Sort
set_option linter.unusedSimpArgs false
set_option linter.unusedVariables false

theorem strokeIn_some {ss : List Sgn} {l : Str} {st : Stk} (h : strokeIn ss l = some st) : ∃ x ∈ ss, x.1 = l ∧ x.2 = st := by
  simp only [strokeIn, Option.map_eq_some_iff] at h
  obtain ⟨x, hx, h2⟩ := h
  have h1 := List.find?_some hx
  exact ⟨x, List.mem_of_find?_eq_some hx, by simpa using h1, h2⟩
theorem signBy_mem {ss : List Sgn} (hs : sysOk ss = true) {x : Sgn} (hx : x ∈ ss) : signBy ss x.2 = some x := by
  obtain ⟨k, hk⟩ := List.getElem?_of_mem hx
  refine signBy_hit hk rfl fun j hj => ?_
  obtain ⟨y, hy⟩ := get_lt (l := ss) (k := j) (by have := (List.getElem?_eq_some_iff.1 hk).1; omega)
  rw [sgnAt_eq hy]
  exact ((sys_at hs hk).2.2.2.2.2 j y hj hy).2
theorem sys_mem {ss : List Sgn} (hs : sysOk ss = true) {x : Sgn} (hx : x ∈ ss) : x.1.size = 1 ∧ x.1 = oneS (byteAt x.1 0) ∧ letterOk (byteAt x.1 0) = true ∧ vowel (byteAt x.1 0) = false ∧ stOk x.2 = true := by
  obtain ⟨k, hk⟩ := List.getElem?_of_mem hx
  have := sys_at hs hk
  exact ⟨this.1, this.2.1, this.2.2.1, this.2.2.2.1, this.2.2.2.2.1⟩
theorem one_byte (b : UInt8) : byteAt (oneS b) 0 = b := rfl
theorem letBy_back {ss : List Sgn} (hs : sysOk ss = true) {b : UInt8} {st : Stk} (h : stkL ss b = some st) : signBy ss st ≠ none ∧ letBy ss st = b := by
  obtain ⟨x, hx, h1, h2⟩ := strokeIn_some h
  have h3 := signBy_mem hs hx
  rw [h2] at h3
  exact ⟨by rw [h3]; simp, by rw [letBy, h3]; show byteAt x.1 0 = b; rw [h1]; rfl⟩
theorem stkAt_stksL {ss : List Sgn} {l : List UInt8} {n i : Nat} (hi : i < n) : stkAt (stksL ss l n) i = stkOr (stkL ss (l.getD i 0)) := by
  simp [stkAt, stksL, List.getD, hi]
/-- outlines are read as bare words -/
theorem wo_back {ss : List Sgn} {s : Str} (h : woOk ss s = true) : obOk ss (woOf ss s) = true ∧ obOf ss (woOf ss s) = ⟨(bareOf s).toArray⟩ ∧ (woOf ss s).length = (bareOf s).length := by
  have h0 := h
  simp only [woOk, Bool.and_eq_true] at h0
  obtain ⟨⟨⟨hs, hw⟩, hl⟩, ho⟩ := h0
  have hf : woOf ss s = stksL ss (bareOf s) (bareOf s).length := by rw [woOf, if_pos h]
  have hlen : (woOf ss s).length = (bareOf s).length := by rw [hf, stksL_len]
  have hget : ∀ i, i < (bareOf s).length → ∃ st, stkL ss ((bareOf s).getD i 0) = some st ∧ stkAt (woOf ss s) i = st := by
    intro i hi
    have h1 := allTo_iff.1 hl i hi
    obtain ⟨st, hst⟩ := Option.isSome_iff_exists.1 h1
    exact ⟨st, hst, by rw [hf, stkAt_stksL hi, hst]; rfl⟩
  have hall : allBy ss (woOf ss s) (woOf ss s).length = true := by
    rw [hlen]
    refine allTo_iff.2 fun i hi => ?_
    obtain ⟨st, h1, h2⟩ := hget i hi
    rw [h2]
    have := (letBy_back hs h1).1
    cases h3 : signBy ss st
    · exact absurd h3 this
    · rfl
  have hok : outOk (woOf ss s) = true := woOf_out h
  obtain ⟨h1, h2⟩ := ob_full hs hok hall
  refine ⟨h1, ?_, hlen⟩
  rw [h2, hlen]
  congr 1
  congr 1
  apply List.ext_getElem?
  intro i
  by_cases hi : i < (bareOf s).length
  · obtain ⟨st, h3, h4⟩ := hget i hi
    simp only [letsBy, List.getElem?_map, List.getElem?_range hi, Option.map_some, h4, (letBy_back hs h3).2]
    rw [List.getD_eq_getElem?_getD, List.getElem?_eq_getElem hi]; rfl
  · rw [List.getElem?_eq_none (by rw [letsBy_len]; omega), List.getElem?_eq_none (by omega)]
theorem wo_ahead {ss : List Sgn} {s : Str} (h : woOk ss s = true) (hl : s.size ≠ 12) : woOk ss (ahead 97 s) = true ∧ woOf ss (ahead 97 s) = woOf ss s := by
  have h0 := h
  simp only [woOk, Bool.and_eq_true] at h0
  obtain ⟨⟨⟨hs, hw⟩, hlt⟩, ho⟩ := h0
  have h12 := (wordOk_size hw).2
  have hw2 := ahead_ok (c := 97) hw (by omega) (by decide)
  have hb := ahead_bare (c := 97) hw (by omega) (by decide) (by decide)
  have hk : woOk ss (ahead 97 s) = true := by rw [woOk, hb, hs, hw2, hlt, ho]; rfl
  exact ⟨hk, by rw [woOf, if_pos hk, hb, woOf, if_pos h]⟩
theorem bare_letter {b : UInt8} (h1 : letterOk b = true) (h2 : vowel b = false) : wordOk (oneS b) = true ∧ bareOf (oneS b) = [b] := by
  have hw : wordOk (oneS b) = true := by rw [wordOk_one rfl]; exact h1
  refine ⟨hw, ?_⟩
  rw [bareOf, if_pos hw]
  have hs : (oneS b).size = 1 := rfl
  have hz : bareAt (oneS b) 0 = true := by
    have : byteAt (oneS b) 0 = b := rfl
    simp [bareAt, this, h2]
  rw [hs, bareTo_yes hz]; rfl
theorem out_one {st : Stk} (h : stOk st = true) : outOk [st] = true := by
  have : outAt [st] 0 = true := by
    have e : stkAt [st] 0 = st := rfl
    simp [outAt, e, h]
  simp [outOk, allTo, this]
/-- a letter of a system has one stroke, and is written and read by it -/
theorem letter_facts {ss : List Sgn} {l : Str} {st : Stk} (h : strokeOf ss l = some st) : sysOk ss = true ∧ woOk ss l = true ∧ woOf ss l = [st] ∧ obOk ss [st] = true ∧ obOf ss [st] = l := by
  have hs : sysOk ss = true := by
    cases hs : sysOk ss
    · rw [strokeOf, hs] at h; cases h
    · rfl
  rw [strokeOf, hs] at h
  obtain ⟨x, hx, hx1, hx2⟩ := strokeIn_some h
  have hm := sys_mem hs hx
  rw [hx1] at hm
  rw [hx2] at hm
  obtain ⟨_, hone, hlo, hvo, hst⟩ := hm
  obtain ⟨hw, hb⟩ := bare_letter hlo hvo
  rw [← hone] at hw hb
  have hsl : stkL ss (byteAt l 0) = some st := by rw [stkL, ← hone]; exact h
  have hstk : stksL ss [byteAt l 0] 1 = [st] := by simp [stksL, List.range_succ, hsl, stkOr]
  have hk : woOk ss l = true := by
    rw [woOk, hs, hw, hb]
    have h1 : hasL ss [byteAt l 0] [byteAt l 0].length = true := by simp [hasL, allTo, hsl]
    rw [h1]
    show (true && outOk (stksL ss [byteAt l 0] 1)) = true
    rw [hstk, out_one hst]; rfl
  have hf : woOf ss l = [st] := by rw [woOf, if_pos hk, hb]; exact hstk
  have hback := wo_back hk
  rw [hf, hb] at hback
  refine ⟨hs, hk, hf, hback.1, ?_⟩
  rw [hback.2.1]
  rw [hone]; rfl
theorem rest_none {ss : List Sgn} {l : Str} : strokeOf (ss.filter fun x => decide (x.1 ≠ l)) l = none := by
  rw [strokeOf]
  split
  · refine strokeIn_none fun j hj he => ?_
    obtain ⟨x, hx⟩ := get_lt hj
    rw [sgnAt_eq hx] at he
    have := (List.mem_filter.1 (List.mem_of_getElem? hx)).2
    simp [he] at this
  · rfl
end Go.Proofs.Ytbcbpcidfcjibaa
