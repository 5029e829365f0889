/-
  Contracts of the functions over lists of words: szStringS, toStringS, eqStringS, Index, Contains, SpeechValid, DictionaryValid (both texts).
-/
import Derived.Test.YtlpagnbfjechhaaDoorWords2
import Derived.Test.YtlpagnbfjechhaaDoorData
namespace Go.Proofs.YtlpagnbfjechhaaDoor
open Go.RowKit
set_option linter.unusedSimpArgs false
set_option linter.unusedVariables false

/-! ### plain -/
def strs (ws : List Str) : List Value := ws.map Value.string
theorem strs_at {ws : List Str} {k : Nat} {s : Str} (h : ws[k]? = some s) : (strs ws)[k]? = some (.string s) := by simp [strs, h]
def strAt (ws : List Str) (k : Nat) : Str := ws.getD k ByteArray.empty
theorem strAt_eq {ws : List Str} {k : Nat} {s : Str} (h : ws[k]? = some s) : strAt ws k = s := by simp [strAt, List.getD, h]
def StrsOk (ws : List Str) : Prop := ∀ s ∈ ws, s.size ≤ maxLen
theorem StrsOk.at_ {ws : List Str} (h : StrsOk ws) {k : Nat} {s : Str} (hs : ws[k]? = some s) : s.size ≤ maxLen := h s (List.mem_of_getElem? hs)

def szStr (ws : List Str) (k : Nat) : Int := (strAt ws k).size
def speechOk (ws : List Str) : Bool := decide (ws.length ≤ 20) && allTo (fun k => wordOk (strAt ws k)) ws.length
def hasNo (ws : List Str) (x : Str) (n : Nat) : Bool := allTo (fun j => !(decide (strAt ws j = x))) n
def dictAt (ws : List Str) (k : Nat) : Bool := wordOk (strAt ws k) && hasNo ws (strAt ws k) k
def dictOk (ws : List Str) : Bool := decide (ws.length ≤ 20) && allTo (dictAt ws) ws.length

/-! ### walks -/
theorem info_str : (Tryd.prog.info? 9).map (fun i => (i.zero, i.size, i.bytes)) = some (some (.string ByteArray.empty), 1, 16) := by kernel_rfl

end Go.Proofs.YtlpagnbfjechhaaDoor
