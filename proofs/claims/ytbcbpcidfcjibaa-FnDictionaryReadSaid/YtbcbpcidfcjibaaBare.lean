/-
  Contracts of OutlineBare (both texts).
-/
import Derived.Test.YtbcbpcidfcjibaaPlan
import Derived.Test.YtbcbpcidfcjibaaJoin
import Derived.Test.YtbcbpcidfcjibaaChain
import Derived.Test.YtbcbpcidfcjibaaWords2
import Derived.Test.YtbcbpcidfcjibaaWordsP
import Derived.Test.YtbcbpcidfcjibaaOpen
namespace Go.Proofs.Ytbcbpcidfcjibaa
open Go.RowKit Go.Sort
set_option linter.unusedSimpArgs false
set_option linter.unusedVariables false

/-- the sign of a stroke in a system -/
def signBy (ss : List Sgn) (st : Stk) : Option Sgn := ss.find? (fun x => decide (x.2 = st))
def letBy (ss : List Sgn) (st : Stk) : UInt8 := match signBy ss st with | some x => byteAt x.1 0 | none => 0
def allBy (ss : List Sgn) (os : List Stk) (k : Nat) : Bool := allTo (fun i => (signBy ss (stkAt os i)).isSome) k
def letsBy (ss : List Sgn) (os : List Stk) (n : Nat) : List UInt8 := (List.range n).map fun i => letBy ss (stkAt os i)
def obOk (ss : List Sgn) (os : List Stk) : Bool := sysOk ss && outOk os && allBy ss os os.length
def obOf (ss : List Sgn) (os : List Stk) : Str := if obOk ss os then ⟨(letsBy ss os os.length).toArray⟩ else ByteArray.empty
theorem letsBy_len (ss : List Sgn) (os : List Stk) (n : Nat) : (letsBy ss os n).length = n := by simp [letsBy]
theorem letsBy_succ (ss : List Sgn) (os : List Stk) (n : Nat) : letsBy ss os (n + 1) = letsBy ss os n ++ [letBy ss (stkAt os n)] := by simp [letsBy, List.range_succ]
theorem ob_sys {ss : List Sgn} {os : List Stk} (h : sysOk ss = false) : obOk ss os = false ∧ obOf ss os = ByteArray.empty := by
  have : obOk ss os = false := by simp [obOk, h]
  exact ⟨this, by simp [obOf, this]⟩
theorem ob_out {ss : List Sgn} {os : List Stk} (h : outOk os = false) : obOk ss os = false ∧ obOf ss os = ByteArray.empty := by
  have : obOk ss os = false := by simp [obOk, h]
  exact ⟨this, by simp [obOf, this]⟩
theorem ob_miss {ss : List Sgn} {os : List Stk} {k : Nat} (hk : k < os.length) (h : signBy ss (stkAt os k) = none) : obOk ss os = false ∧ obOf ss os = ByteArray.empty := by
  have h1 : allBy ss os os.length = false := allTo_not (k := k) (by rw [h]; rfl) hk
  have : obOk ss os = false := by simp [obOk, h1]
  exact ⟨this, by simp [obOf, this]⟩
theorem ob_full {ss : List Sgn} {os : List Stk} (hs : sysOk ss = true) (ho : outOk os = true) (h : allBy ss os os.length = true) : obOk ss os = true ∧ obOf ss os = ⟨(letsBy ss os os.length).toArray⟩ := by
  have : obOk ss os = true := by simp [obOk, hs, ho, h]
  exact ⟨this, by simp [obOf, this]⟩
theorem signBy_hit {ss : List Sgn} {st : Stk} {k : Nat} {x : Sgn} (hx : ss[k]? = some x) (he : x.2 = st) (hno : ∀ j, j < k → (sgnAt ss j).2 ≠ st) : signBy ss st = some x := by
  induction ss generalizing k with
  | nil => simp at hx
  | cons y ss ih =>
    cases k with
    | zero => simp at hx; subst hx; simp [signBy, he]
    | succ k =>
      have h0 : y.2 ≠ st := hno 0 (by omega)
      have := ih (k := k) (by simpa using hx) (fun j hj => hno (j + 1) (by omega))
      simp only [signBy, List.find?_cons, decide_eq_false h0]
      exact this
theorem signBy_none {ss : List Sgn} {st : Stk} (hno : ∀ j, j < ss.length → (sgnAt ss j).2 ≠ st) : signBy ss st = none := by
  induction ss with
  | nil => rfl
  | cons y ss ih =>
    have h0 : y.2 ≠ st := hno 0 (by simp)
    have := ih (fun j hj => hno (j + 1) (by simp; omega))
    simp only [signBy, List.find?_cons, decide_eq_false h0]
    exact this
theorem sys_at {ss : List Sgn} (hs : sysOk ss = true) {k : Nat} {x : Sgn} (hx : ss[k]? = some x) : x.1.size = 1 ∧ x.1 = oneS (byteAt x.1 0) ∧ letterOk (byteAt x.1 0) = true ∧ vowel (byteAt x.1 0) = false ∧ stOk x.2 = true ∧ ∀ j y, j < k → ss[j]? = some y → y.1 ≠ x.1 ∧ y.2 ≠ x.2 := by
  simp only [sysOk, Bool.and_eq_true] at hs
  have h := allTo_iff.1 hs.2 k (List.getElem?_eq_some_iff.1 hx).1
  rw [sysAt, sgnAt_eq hx, Bool.and_eq_true] at h
  obtain ⟨h1, h2⟩ := h
  simp only [sgnOk, consOk, Bool.and_eq_true, decide_eq_true_eq] at h1
  refine ⟨h1.1.1.1, str_ext (by rw [one_list h1.1.1.1]; rfl), h1.1.1.2, by simpa using h1.1.2, h1.2, fun j y hj hy => ?_⟩
  have h3 := allTo_iff.1 h2 j hj
  rw [sgnAt_eq hy] at h3
  simpa using h3

/-- how far the reference's search has come -/
def Sought (ss : List Sgn) (st : Stk) (pre : List UInt8) (k : Nat) (fb : Bool) (l : List UInt8) : Prop :=
  (fb = false ∧ l = pre ∧ ∀ j, j < k → (sgnAt ss j).2 ≠ st) ∨ (fb = true ∧ ∃ x j, j < k ∧ ss[j]? = some x ∧ x.2 = st ∧ signBy ss st = some x ∧ l = pre ++ [byteAt x.1 0])
theorem sought_no {ss : List Sgn} {st : Stk} {pre l : List UInt8} {k : Nat} {fb : Bool} {y : Sgn} (h : Sought ss st pre k fb l) (hy : ss[k]? = some y) (hne : y.2 ≠ st) : Sought ss st pre (k + 1) fb l := by
  rcases h with ⟨h1, h2, h3⟩ | ⟨h1, x, j, hj, h2⟩
  · refine .inl ⟨h1, h2, fun j hj => ?_⟩
    by_cases e : j = k
    · subst e; rw [sgnAt_eq hy]; exact hne
    · exact h3 j (by omega)
  · exact .inr ⟨h1, x, j, by omega, h2⟩
theorem sought_yes {ss : List Sgn} (hs : sysOk ss = true) {st : Stk} {pre l : List UInt8} {k : Nat} {fb : Bool} {y : Sgn} (h : Sought ss st pre k fb l) (hy : ss[k]? = some y) (he : y.2 = st) : Sought ss st pre (k + 1) true (l ++ [byteAt y.1 0]) := by
  rcases h with ⟨h1, h2, h3⟩ | ⟨h1, x, j, hj, h2, h4, _⟩
  · exact .inr ⟨rfl, y, k, by omega, hy, he, signBy_hit hy he h3, by rw [h2]⟩
  · exact absurd (h4.trans he.symm) ((sys_at hs hy).2.2.2.2.2 j x hj h2).2

/-! ### the program's -/
def Found (ss : List Sgn) (st : Stk) (i : Int) : Prop := (i = -1 ∧ signBy ss st = none) ∨ ∃ (k : Nat) (x : Sgn), i = k ∧ ss[k]? = some x ∧ signBy ss st = some x
end Go.Proofs.Ytbcbpcidfcjibaa
