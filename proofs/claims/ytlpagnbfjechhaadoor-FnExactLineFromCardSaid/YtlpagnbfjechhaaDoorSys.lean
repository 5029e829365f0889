/-
  Contracts of SystemValid (both texts) and signsOf.
-/
import Derived.Test.YtlpagnbfjechhaaDoorStks
import Derived.Test.YtlpagnbfjechhaaDoorWords2
import Derived.Test.YtlpagnbfjechhaaDoorMaps
import Derived.Test.YtlpagnbfjechhaaDoorMem2
import Derived.Test.YtlpagnbfjechhaaDoorStrs
namespace Go.Proofs.YtlpagnbfjechhaaDoor
open Go.RowKit Go.Sort
set_option linter.unusedSimpArgs false
set_option linter.unusedVariables false

def sgnAt (ss : List Sgn) (k : Nat) : Sgn := ss.getD k (ByteArray.empty, (0, 0))
theorem sgnAt_eq {ss : List Sgn} {k : Nat} {s : Sgn} (h : ss[k]? = some s) : sgnAt ss k = s := by simp [sgnAt, List.getD, h]
/-- a text that is one consonant -/
def consOk (s : Str) : Bool := decide (s.size = 1) && letterOk (byteAt s 0) && !vowel (byteAt s 0)
def sgnOk (x : Sgn) : Bool := consOk x.1 && stOk x.2
def sgnNew (ss : List Sgn) (x : Sgn) (k : Nat) : Bool := allTo (fun j => !(decide ((sgnAt ss j).1 = x.1)) && !(decide ((sgnAt ss j).2 = x.2))) k
def sysAt (ss : List Sgn) (k : Nat) : Bool := sgnOk (sgnAt ss k) && sgnNew ss (sgnAt ss k) k
def sysOk (ss : List Sgn) : Bool := decide (ss.length ≤ 21) && allTo (sysAt ss) ss.length
def OkSgns (ss : List Sgn) : Prop := ∀ x ∈ ss, x.1.size ≤ maxLen
theorem OkSgns.at_ {ss : List Sgn} (h : OkSgns ss) {k : Nat} {s : Sgn} (hs : ss[k]? = some s) : s.1.size ≤ maxLen := h s (List.mem_of_getElem? hs)

theorem Seg.sgn {w : World} {lo hi : Nat} {A : Option Addr} {ss : List Sgn} {k : Nat} {s : Sgn} (h : Seg w lo hi A (flat sgnC ss)) (hk : ss[k]? = some s) :
    ∃ g o, A = some ⟨g, o, none⟩ ∧ g < w.heap.size ∧ lo ≤ g ∧ g < hi ∧ w.cell? ⟨g, o + k * 3, none⟩ = some (.string s.1) ∧ w.cell? ⟨g, o + k * 3 + 1, none⟩ = some (.int .i64 s.2.1) ∧ w.cell? ⟨g, o + k * 3 + 2, none⟩ = some (.int .i64 s.2.2) := by
  have h0 := flat_get sgnC_len hk (j := 0) (by decide)
  have h1 := flat_get sgnC_len hk (j := 1) (by decide)
  have h2 := flat_get sgnC_len hk (j := 2) (by decide)
  rcases h with h | ⟨g, o, rfl, a, b, c, d⟩
  · rw [h] at h0; simp [sgnC] at h0
  · exact ⟨g, o, rfl, c, a, b, by simpa [sgnC] using d _ _ h0, by simpa [sgnC, Nat.add_assoc] using d _ _ h1, by simpa [sgnC, Nat.add_assoc] using d _ _ h2⟩

theorem wordOk_one {s : Str} (h : s.size = 1) : wordOk s = letterOk (byteAt s 0) := by
  have e : s.data.toList = [byteAt s 0] := by
    have hl : s.data.toList.length = 1 := by simpa using h
    match hd : s.data.toList, hl with
    | [c], _ => simp [byteAt, hd]
  rw [wordOk, e, h]
  simp [lettersOk]
theorem sgnNew_not {ss : List Sgn} {x s' : Sgn} {j k : Nat} (hs : ss[j]? = some s') (hj : j < k) (h : s'.1 = x.1 ∨ s'.2 = x.2) : sgnNew ss x k = false := by
  refine allTo_not (k := j) ?_ hj
  rw [sgnAt_eq hs]
  rcases h with h | h <;> simp [h]
theorem sgnNew_step {ss : List Sgn} {x s' : Sgn} {j : Nat} (hs : ss[j]? = some s') (h0 : sgnNew ss x j = true) (h1 : s'.1 ≠ x.1) (h2 : s'.2 ≠ x.2) : sgnNew ss x (j + 1) = true := by
  refine allTo_step h0 ?_
  rw [sgnAt_eq hs]
  simp [h1, h2]

end Go.Proofs.YtlpagnbfjechhaaDoor
