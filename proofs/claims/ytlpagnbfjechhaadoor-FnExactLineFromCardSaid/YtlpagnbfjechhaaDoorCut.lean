/-
  Plain law: the parts of a text between its blanks; what a line of written words reads as. No program in sight.
-/
import Derived.Test.YtlpagnbfjechhaaDoorWfrom
import Derived.Test.YtlpagnbfjechhaaDoorLineM
import Derived.Lib.IndexLaws
namespace Go.Proofs.YtlpagnbfjechhaaDoor
open Go.RowKit
set_option linter.unusedSimpArgs false
set_option linter.unusedVariables false

def cutB : List UInt8 → List (List UInt8)
  | [] => [[]]
  | c :: l => if c = 32 then [] :: cutB l else (c :: (cutB l).headD []) :: (cutB l).tail
/-- the parts of a text between its blanks -/
def parts (s : Str) : List Str := (cutB s.data.toList).map fun l => (⟨l.toArray⟩ : Str)

theorem cutB_none : ∀ {l : List UInt8}, Lib.indexByte l 32 = -1 → cutB l = [l]
  | [], _ => rfl
  | c :: l, h => by
    unfold Lib.indexByte at h
    split at h
    · cases h
    · rename_i hc
      split at h
      · rename_i h2
        have hc' : ¬ c = 32 := by simpa using hc
        rw [cutB, if_neg hc', cutB_none (eq_of_beq h2)]; rfl
      · have := Lib.indexByte_ge l 32; omega
theorem cutB_some : ∀ {l : List UInt8} {i : Nat}, Lib.indexByte l 32 = (i : Int) → cutB l = l.take i :: cutB (l.drop (i + 1))
  | [], i, h => by simp [Lib.indexByte] at h
  | c :: l, i, h => by
    unfold Lib.indexByte at h
    split at h
    · rename_i hc
      have hc' : c = 32 := by simpa using hc
      have : i = 0 := by omega
      subst this
      rw [cutB, if_pos hc']; rfl
    · rename_i hc
      have hc' : ¬ c = 32 := by simpa using hc
      split at h
      · omega
      · rename_i hl
        have hge := Lib.indexByte_ge l 32
        have hne : Lib.indexByte l 32 ≠ -1 := fun e => hl (by simp [e])
        obtain ⟨o, rfl⟩ : ∃ o, i = o + 1 := ⟨i - 1, by omega⟩
        have ih := cutB_some (l := l) (i := o) (by push_cast at h; omega)
        rw [cutB, if_neg hc', ih]; rfl
theorem parts_none {s : Str} (h : Lib.indexByte s.data.toList 32 < 0) : parts s = [s] := by
  have := Lib.indexByte_ge s.data.toList 32
  rw [parts, cutB_none (by omega)]; rfl
theorem ext_take (s : Str) (i : Nat) : (s.extract 0 i).data.toList = s.data.toList.take i := by
  rw [ByteArray.data_extract, Array.toList_extract, List.extract_eq_take_drop]; simp
theorem ext_drop (s : Str) (i : Nat) : (s.extract i s.size).data.toList = s.data.toList.drop i := by
  rw [ByteArray.data_extract, Array.toList_extract, List.extract_eq_take_drop]
  apply List.take_of_length_le
  simp
theorem parts_some {s : Str} {i : Nat} (h : Lib.indexByte s.data.toList 32 = (i : Int)) : parts s = s.extract 0 i :: parts (s.extract (i + 1) s.size) := by
  rw [parts, cutB_some h, List.map_cons]
  congr 1
  · exact str_ext (by rw [ext_take])
  · rw [parts, ext_drop]
theorem parts_ne (s : Str) : parts s ≠ [] := by
  have : ∀ l, cutB l ≠ [] := fun l => by
    cases l with
    | nil => simp [cutB]
    | cons c l => unfold cutB; split <;> simp
  intro h
  exact this s.data.toList (by simpa [parts] using h)
theorem parts_size : ∀ (n : Nat) (s : Str), s.size ≤ n → ∀ x ∈ parts s, x.size ≤ s.size
  | n, s, hn, x, hx => by
    have hge := Lib.indexByte_ge s.data.toList 32
    by_cases h : Lib.indexByte s.data.toList 32 < 0
    · rw [parts_none h] at hx; simp at hx; subst hx; exact Nat.le_refl _
    · obtain ⟨i, hi⟩ : ∃ i : Nat, Lib.indexByte s.data.toList 32 = (i : Int) := ⟨(Lib.indexByte s.data.toList 32).toNat, by omega⟩
      have h1 := (List.getElem?_eq_some_iff.1 (Lib.indexByte_some hi).1).1
      have h2 : s.data.toList.length = s.size := rfl
      rw [parts_some hi] at hx
      rcases List.mem_cons.1 hx with rfl | hx
      · simp [ByteArray.size_extract]; omega
      · have hs : (s.extract (i + 1) s.size).size = s.size - (i + 1) := by simp [ByteArray.size_extract]
        cases n with
        | zero => omega
        | succ n =>
          have := parts_size n (s.extract (i + 1) s.size) (by omega) x hx
          omega
theorem parts_len : ∀ (l : List UInt8), (cutB l).length ≤ l.length + 1
  | [] => by simp [cutB]
  | c :: l => by
    have := parts_len l
    unfold cutB
    split
    · simp; omega
    · simp; omega
theorem index_at : ∀ {l : List UInt8} {i : Nat} {c : UInt8}, l[i]? = some c → (∀ j, j < i → l[j]? ≠ some c) → Lib.indexByte l c = (i : Int)
  | [], i, c, h, _ => by simp at h
  | b :: l, 0, c, h, _ => by
    simp at h; subst h
    unfold Lib.indexByte
    rw [if_pos (by simp)]; rfl
  | b :: l, i + 1, c, h, hn => by
    have hb : ¬ (b == c) = true := by
      intro e
      exact hn 0 (by omega) (by simp [eq_of_beq e])
    have ih := index_at (l := l) (i := i) (c := c) (by simpa using h) (fun j hj => by have := hn (j + 1) (by omega); simpa using this)
    unfold Lib.indexByte
    rw [if_neg hb, ih, if_neg (by intro e; have := eq_of_beq e; omega)]
    push_cast; rfl
theorem index_no : ∀ {l : List UInt8} {c : UInt8}, (∀ j, j < l.length → l[j]? ≠ some c) → Lib.indexByte l c = -1
  | [], c, _ => rfl
  | b :: l, c, hn => by
    have hb : ¬ (b == c) = true := by
      intro e
      exact hn 0 (by simp) (by simp [eq_of_beq e])
    have ih := index_no (l := l) (c := c) (fun j hj => by have := hn (j + 1) (by simp; omega); simpa using this)
    unfold Lib.indexByte
    rw [if_neg hb, ih]; rfl

/-! ### the reference's scan: what has been cut when k bytes are read -/
def CutAt (s : Str) (f k : Nat) (out : List Str) : Prop := f ≤ k ∧ parts s = out ++ parts (s.extract f s.size) ∧ ∀ j, f ≤ j → j < k → byteAt s j ≠ 32
theorem cut_start (s : Str) : CutAt s 0 0 [] := ⟨Nat.le_refl _, by simp, fun j h1 h2 => by omega⟩
theorem at_byte {s : Str} {j : Nat} (h : j < s.size) : s.data.toList[j]? = some (byteAt s j) := by
  unfold byteAt
  rw [List.getD_eq_getElem?_getD, List.getElem?_eq_getElem (by simpa using h), Option.getD_some]
theorem drop_byte {s : Str} {f j : Nat} (h : f + j < s.size) : (s.extract f s.size).data.toList[j]? = some (byteAt s (f + j)) := by
  rw [ext_drop, List.getElem?_drop]; exact at_byte h
theorem ext_ext (s : Str) (f i : Nat) (h : f + i ≤ s.size) : (s.extract f s.size).extract 0 i = s.extract f (f + i) := by
  apply str_ext
  rw [ext_take, ext_drop, ByteArray.data_extract, Array.toList_extract, List.extract_eq_take_drop]
  simp
theorem ext_rest (s : Str) (f i : Nat) : (s.extract f s.size).extract i (s.extract f s.size).size = s.extract (f + i) s.size := by
  apply str_ext
  rw [ext_drop, ext_drop, ext_drop, List.drop_drop]
theorem cut_hit {s : Str} {f k : Nat} {out : List Str} (h : CutAt s f k out) (hk : k < s.size) (hb : byteAt s k = 32) : CutAt s (k + 1) (k + 1) (out ++ [s.extract f k]) := by
  obtain ⟨h1, h2, h3⟩ := h
  refine ⟨Nat.le_refl _, ?_, fun j h4 h5 => by omega⟩
  have hi : Lib.indexByte (s.extract f s.size).data.toList 32 = ((k - f : Nat) : Int) := by
    refine index_at ?_ fun j hj => ?_
    · rw [drop_byte (by omega), show f + (k - f) = k by omega, hb]
    · rw [drop_byte (by omega)]
      intro e
      exact h3 (f + j) (by omega) (by omega) (Option.some.inj e)
  rw [h2, parts_some hi, ext_ext s f (k - f) (by omega), ext_rest, show f + (k - f) = k by omega, show f + (k - f + 1) = k + 1 by omega]
  simp
theorem cut_miss {s : Str} {f k : Nat} {out : List Str} (h : CutAt s f k out) (hb : byteAt s k ≠ 32) : CutAt s f (k + 1) out := by
  obtain ⟨h1, h2, h3⟩ := h
  refine ⟨by omega, h2, fun j h4 h5 => ?_⟩
  by_cases e : j = k
  · subst e; exact hb
  · exact h3 j h4 (by omega)
theorem cut_end {s : Str} {f : Nat} {out : List Str} (h : CutAt s f s.size out) : parts s = out ++ [s.extract f s.size] := by
  obtain ⟨h1, h2, h3⟩ := h
  rw [h2, parts_none]
  rw [index_no]
  · decide
  · intro j hj
    have h4 : (s.extract f s.size).data.toList.length = s.size - f := by rw [ext_drop, List.length_drop]; rfl
    rw [drop_byte (by omega)]
    intro e
    exact h3 (f + j) (by omega) (by omega) (Option.some.inj e)

/-! ### what a line reads as -/
def lfF (x : Str) : List Stk × Int := (wfOf x, wfP x)
def lfGood (ps : List Str) : Bool := decide (ps.length ≤ 20) && ps.all wfOk
def lfOk (s : Str) : Bool := decide (s.size = 0) || lfGood (parts s)
def lfOf (s : Str) : List (List Stk × Int) := if s.size = 0 then [] else if lfGood (parts s) then (parts s).map lfF else []
theorem lf_empty {s : Str} (h : s.size = 0) : lfOk s = true ∧ lfOf s = [] := ⟨by rw [lfOk, decide_eq_true h]; rfl, by rw [lfOf, if_pos h]⟩
theorem lf_yes {s : Str} (h0 : ¬ s.size = 0) (h : lfGood (parts s) = true) : lfOk s = true ∧ lfOf s = (parts s).map lfF := ⟨by rw [lfOk, h, Bool.or_true], by rw [lfOf, if_neg h0, h]; rfl⟩
theorem lf_no {s : Str} (h0 : ¬ s.size = 0) (h : lfGood (parts s) = false) : lfOk s = false ∧ lfOf s = [] := ⟨by rw [lfOk, h, decide_eq_false h0]; rfl, by rw [lfOf, if_neg h0, h]; rfl⟩
theorem good_miss {ps pre more : List Str} {x : Str} (hp : ps = pre ++ x :: more) (h : wfOk x = false) : lfGood ps = false := by
  rw [hp, lfGood, List.all_append, List.all_cons, h]; simp
theorem good_long {ps : List Str} (h : ¬ ps.length ≤ 20) : lfGood ps = false := by rw [lfGood, decide_eq_false h]; rfl
theorem lfOf_len (s : Str) : (lfOf s).length ≤ 20 := by
  unfold lfOf
  split
  · simp
  · split
    · rename_i h
      rw [lfGood, Bool.and_eq_true] at h
      simpa using of_decide_eq_true h.1
    · simp
theorem lf_short {s : Str} {ys : List Wrt} (h : formsOf ys = lfOf s) : ∀ y ∈ ys, y.1.2.2.length ≤ 1048576 := by
  intro y hy
  have h1 : (y.1.2.2, y.2) ∈ formsOf ys := List.mem_map.2 ⟨y, hy, rfl⟩
  rw [h, lfOf] at h1
  split at h1
  · simp at h1
  · split at h1
    · obtain ⟨s, _, hs⟩ := List.mem_map.1 h1
      injection hs with h2 _
      rw [← h2]
      exact Nat.le_trans (wfOf_len s) (by decide)
    · simp at h1
end Go.Proofs.YtlpagnbfjechhaaDoor
