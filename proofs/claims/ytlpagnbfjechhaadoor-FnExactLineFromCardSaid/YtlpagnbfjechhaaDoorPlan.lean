/-
  Plain facts on systems and outlines of words. Only what the contracts say, no walk.
-/
import Derived.Test.YtlpagnbfjechhaaDoorStroke
namespace Go.Proofs.YtlpagnbfjechhaaDoor
open Go.RowKit
set_option linter.unusedSimpArgs false
set_option linter.unusedVariables false

theorem sgnAt_left {a b : List Sgn} {k : Nat} (h : k < a.length) : sgnAt (a ++ b) k = sgnAt a k := by
  simp [sgnAt, List.getD, List.getElem?_append_left h]
theorem sysAt_left {a b : List Sgn} {k : Nat} (h : k < a.length) : sysAt (a ++ b) k = sysAt a k := by
  unfold sysAt sgnNew
  rw [sgnAt_left h]
  congr 1
  exact allTo_congr fun i hi => by rw [sgnAt_left (Nat.lt_trans hi h)]
theorem sys_left {a b : List Sgn} (h : sysOk (a ++ b) = true) : sysOk a = true := by
  simp only [sysOk, Bool.and_eq_true, decide_eq_true_eq, List.length_append] at h ⊢
  refine ⟨by omega, allTo_iff.2 fun i hi => ?_⟩
  rw [← sysAt_left (b := b) hi]
  exact allTo_iff.1 h.2 i (by omega)
theorem sys_len {a : List Sgn} (h : sysOk a = true) : a.length ≤ 21 := by
  simp only [sysOk, Bool.and_eq_true, decide_eq_true_eq] at h
  exact h.1

def addOk (ss : List Sgn) (x : Sgn) : Bool := sysOk (ss ++ [x])
def added (ss : List Sgn) (x : Sgn) : List Sgn := if addOk ss x then ss ++ [x] else []
theorem add_sys {ss : List Sgn} {x : Sgn} (h : sysOk ss = false) : addOk ss x = false := by
  unfold addOk
  cases h2 : sysOk (ss ++ [x])
  · rfl
  · rw [sys_left h2] at h; cases h
theorem added_len (ss : List Sgn) (x : Sgn) : (added ss x).length ≤ 21 := by
  unfold added
  split
  · rename_i h; exact sys_len h
  · simp

/-! ### the outline of a word -/
def oneS (b : UInt8) : Str := ⟨#[b]⟩
theorem extract_oneS (s : ByteArray) (k : Nat) (h : k < s.size) : s.extract k (k + 1) = oneS (byteAt s k) := by
  apply str_ext
  rw [extract_one s k h]; rfl
def stkL (ss : List Sgn) (b : UInt8) : Option Stk := strokeIn ss (oneS b)
def hasL (ss : List Sgn) (l : List UInt8) (k : Nat) : Bool := allTo (fun i => (stkL ss (l.getD i 0)).isSome) k
def stksL (ss : List Sgn) (l : List UInt8) (n : Nat) : List Stk := (List.range n).map fun i => stkOr (stkL ss (l.getD i 0))
def woOk (ss : List Sgn) (s : Str) : Bool := sysOk ss && wordOk s && hasL ss (bareOf s) (bareOf s).length && outOk (stksL ss (bareOf s) (bareOf s).length)
def woOf (ss : List Sgn) (s : Str) : List Stk := if woOk ss s then stksL ss (bareOf s) (bareOf s).length else []
theorem stksL_len (ss : List Sgn) (l : List UInt8) (n : Nat) : (stksL ss l n).length = n := by simp [stksL]
theorem stksL_succ (ss : List Sgn) (l : List UInt8) (n : Nat) : stksL ss l (n + 1) = stksL ss l n ++ [stkOr (stkL ss (l.getD n 0))] := by simp [stksL, List.range_succ]
theorem woOf_len (ss : List Sgn) (s : Str) : (woOf ss s).length ≤ 8 := by
  unfold woOf
  split
  · rename_i h
    simp only [woOk, outOk, Bool.and_eq_true, decide_eq_true_eq] at h
    exact h.2.1
  · simp
theorem wo_sys {ss : List Sgn} {s : Str} (h : sysOk ss = false) : woOk ss s = false ∧ woOf ss s = [] := by
  have : woOk ss s = false := by simp [woOk, h]
  exact ⟨this, by simp [woOf, this]⟩
theorem wo_word {ss : List Sgn} {s : Str} (h : wordOk s = false) : woOk ss s = false ∧ woOf ss s = [] := by
  have : woOk ss s = false := by simp [woOk, h]
  exact ⟨this, by simp [woOf, this]⟩
theorem wo_miss {ss : List Sgn} {s : Str} {k : Nat} (hk : k < (bareOf s).length) (h : stkL ss ((bareOf s).getD k 0) = none) : woOk ss s = false ∧ woOf ss s = [] := by
  have h1 : hasL ss (bareOf s) (bareOf s).length = false := allTo_not (k := k) (by rw [h]; rfl) hk
  have : woOk ss s = false := by simp [woOk, h1]
  exact ⟨this, by simp [woOf, this]⟩
theorem wo_full {ss : List Sgn} {s : Str} (hs : sysOk ss = true) (hw : wordOk s = true) (h : hasL ss (bareOf s) (bareOf s).length = true) :
    woOk ss s = outOk (stksL ss (bareOf s) (bareOf s).length) ∧ woOf ss s = if outOk (stksL ss (bareOf s) (bareOf s).length) then stksL ss (bareOf s) (bareOf s).length else [] := by
  have : woOk ss s = outOk (stksL ss (bareOf s) (bareOf s).length) := by simp [woOk, hs, hw, h]
  exact ⟨this, by rw [woOf, this]⟩
theorem bare_len12 {s : Str} (h : wordOk s = true) : (bareOf s).length ≤ 12 := by
  have := (wordOk_size h).2
  unfold bareOf
  rw [if_pos h]
  have h2 := gather_length (fun i => if bareAt s i then some (byteAt s i) else none) s.size
  have h3 : (bareTo s s.size).length ≤ s.size := h2
  omega
end Go.Proofs.YtlpagnbfjechhaaDoor
