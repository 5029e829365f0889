/-
  No cell of these rows narrows 'for every input' (looked for: loops, veiled, ifaces, maps, wideKeys, modest, calm, conditions, laid).
  DERIVED. THE GIVEN ROWS OF THIS SEAT. 4 by the template 'for every input the law returns true; each argument reads behind the call as it read before'; 0 by the template 'total and deterministic' (their statements: YtoidjdbhdkbfhaaTotals.lean).
  GIVEN WITH THE SEED: the statements are not yours to turn. If you find one false, say at which input.
  Laid BY PROGRAM, IN A SANDBOX (cutbox-rows.mjs): the forced cells as the released guide's own fill.sh prints them over the translation e9c97adbca7eec29… (all of the seat's roots in one cut). By AI agents, Wed Nov 11 2026. No macro, syntax, notation, axiom, sorry.
-/
import Derived.Test.YtoidjdbhdkbfhaaChecked
import GoSem.Claim
import GoSem.ClaimJoined
import GoSem.ClaimMapViews
import Derived.JoinedTies
import Derived.KernelRfl
namespace Go.Proofs.Ytoidjdbhdkbfhaa
/- THE CELL 'sum', in the pinned program and in every row, IS THE sha256 OF THE DUMP (.gsa) THAT YtoidjdbhdkbfhaaProg.lean LOADS. Nothing in Lean hashes anything: it is a label: what it is worth is what the hold of that sum in a sandbox is worth. -/
noncomputable def Try.pinned : Pinned := { name := "ytoidjdbhdkbfhaa", sum := "e9c97adbca7eec29384ba9ce5789c8835a26720e78f90515e7c1ab66094e80f6", checked := Try.checked }
namespace Rows
def none {H : Type} : Left H := { results := [], args := [] }

/-- 'laws.FnExactDictionaryClashes': WHATEVER THE INPUT: true; the input reads as it did. -/
def fnExactDictionaryClashesSpec : ChangeSpec := { name := "fnExactDictionaryClashes", fn := fun _ => fun
  | [d1, d2] => { results := [.lit (.bool true)], args := [d1, d2] }
  | _ => none }
def fnExactDictionaryClashesRow : OpenClaim := { program := "ytoidjdbhdkbfhaa", sum := "e9c97adbca7eec29384ba9ce5789c8835a26720e78f90515e7c1ab66094e80f6", func := "loop.example/shorthand/laws.FnExactDictionaryClashes", spec := "fnExactDictionaryClashes", inPlace := ["internal/bytealg.IndexByteString"], recurses := true, plainKeys := false, apart := false }
def FnExactDictionaryClashesSaid : Prop := fnExactDictionaryClashesRow.holds Try.pinned (OpenSpec.ofChange fnExactDictionaryClashesSpec)

/-- ITS FALSE NEIGHBOUR: 'it returns false'. Refute it at one input. -/
def fnExactDictionaryClashesWrong : ChangeSpec := { name := "fnExactDictionaryClashes", fn := fun _ => fun
  | [d1, d2] => { results := [.lit (.bool false)], args := [d1, d2] }
  | _ => none }
def FnExactDictionaryClashesWrongFalsely : Prop := fnExactDictionaryClashesRow.holds Try.pinned (OpenSpec.ofChange fnExactDictionaryClashesWrong)

/-- 'laws.FnExactWrittenOf': WHATEVER THE INPUT: true; the input reads as it did. -/
def fnExactWrittenOfSpec : ChangeSpec := { name := "fnExactWrittenOf", fn := fun _ => fun
  | [d1, d2] => { results := [.lit (.bool true)], args := [d1, d2] }
  | _ => none }
def fnExactWrittenOfRow : OpenClaim := { program := "ytoidjdbhdkbfhaa", sum := "e9c97adbca7eec29384ba9ce5789c8835a26720e78f90515e7c1ab66094e80f6", func := "loop.example/shorthand/laws.FnExactWrittenOf", spec := "fnExactWrittenOf", inPlace := ["internal/bytealg.IndexByteString"], plainKeys := false, apart := false }
def FnExactWrittenOfSaid : Prop := fnExactWrittenOfRow.holds Try.pinned (OpenSpec.ofChange fnExactWrittenOfSpec)

/-- ITS FALSE NEIGHBOUR: 'it returns false'. Refute it at one input. -/
def fnExactWrittenOfWrong : ChangeSpec := { name := "fnExactWrittenOf", fn := fun _ => fun
  | [d1, d2] => { results := [.lit (.bool false)], args := [d1, d2] }
  | _ => none }
def FnExactWrittenOfWrongFalsely : Prop := fnExactWrittenOfRow.holds Try.pinned (OpenSpec.ofChange fnExactWrittenOfWrong)

/-- 'laws.FnExactDictionaryWritten': WHATEVER THE INPUT: true; the input reads as it did. -/
def fnExactDictionaryWrittenSpec : ChangeSpec := { name := "fnExactDictionaryWritten", fn := fun _ => fun
  | [d1, d2] => { results := [.lit (.bool true)], args := [d1, d2] }
  | _ => none }
def fnExactDictionaryWrittenRow : OpenClaim := { program := "ytoidjdbhdkbfhaa", sum := "e9c97adbca7eec29384ba9ce5789c8835a26720e78f90515e7c1ab66094e80f6", func := "loop.example/shorthand/laws.FnExactDictionaryWritten", spec := "fnExactDictionaryWritten", inPlace := ["internal/bytealg.IndexByteString"], plainKeys := false, apart := false }
def FnExactDictionaryWrittenSaid : Prop := fnExactDictionaryWrittenRow.holds Try.pinned (OpenSpec.ofChange fnExactDictionaryWrittenSpec)

/-- ITS FALSE NEIGHBOUR: 'it returns false'. Refute it at one input. -/
def fnExactDictionaryWrittenWrong : ChangeSpec := { name := "fnExactDictionaryWritten", fn := fun _ => fun
  | [d1, d2] => { results := [.lit (.bool false)], args := [d1, d2] }
  | _ => none }
def FnExactDictionaryWrittenWrongFalsely : Prop := fnExactDictionaryWrittenRow.holds Try.pinned (OpenSpec.ofChange fnExactDictionaryWrittenWrong)

/-- 'laws.FnClashes': WHATEVER THE INPUT: true; the input reads as it did. -/
def fnClashesSpec : ChangeSpec := { name := "fnClashes", fn := fun _ => fun
  | [d1, d2] => { results := [.lit (.bool true)], args := [d1, d2] }
  | _ => none }
def fnClashesRow : OpenClaim := { program := "ytoidjdbhdkbfhaa", sum := "e9c97adbca7eec29384ba9ce5789c8835a26720e78f90515e7c1ab66094e80f6", func := "loop.example/shorthand/laws.FnClashes", spec := "fnClashes", inPlace := ["internal/bytealg.IndexByteString"], recurses := true, plainKeys := false, apart := false }
def FnClashesSaid : Prop := fnClashesRow.holds Try.pinned (OpenSpec.ofChange fnClashesSpec)

/-- ITS FALSE NEIGHBOUR: 'it returns false'. Refute it at one input. -/
def fnClashesWrong : ChangeSpec := { name := "fnClashes", fn := fun _ => fun
  | [d1, d2] => { results := [.lit (.bool false)], args := [d1, d2] }
  | _ => none }
def FnClashesWrongFalsely : Prop := fnClashesRow.holds Try.pinned (OpenSpec.ofChange fnClashesWrong)

/- THE SECOND FORM. 'bulk': how many values and letters a reading holds, each counted each time it is reached (what is shared counts as often as it is met; a slice's spare places count too). A statement '..UptoSaid' is the law's where the arguments, and the package variables that the reading takes, are together of bulk at most 1048576: NARROWER than '..Said'. Prove '..Said' where nothing that the law and all that it calls make is longer than what came in: it says more and counts as full. Else prove '..UptoSaid'. A law counts once. -/
mutual
def uptoBulk {H : Type} : DataW H → Nat
  | .lit (.string bytes) => bytes.length + 1
  | .lit _ => 1
  | .nil => 1
  | .ptr d => uptoBulk d + 1
  | .slice elems spare => uptoBulkAll elems + uptoBulkAll spare + 1
  | .agg parts => uptoBulkAll parts + 1
  | .iface _ d => uptoBulk d + 1
  | .map entries => uptoBulkEntries entries + 1
  | .held _ => 1
def uptoBulkAll {H : Type} : List (DataW H) → Nat
  | [] => 0
  | d :: r => uptoBulk d + uptoBulkAll r
def uptoBulkEntries {H : Type} : List (Lit × DataW H) → Nat
  | [] => 0
  | x :: r => uptoBulkEntry x + uptoBulkEntries r
def uptoBulkEntry {H : Type} : Lit × DataW H → Nat
  | (.string bytes, d) => bytes.length + uptoBulk d + 1
  | (_, d) => uptoBulk d + 1
 end
def uptoSmall : (H : Type) → List (DataW H) → Bool := fun _ ds => decide (uptoBulkAll ds ≤ 1048576)
def OpenSpec.upto (s : _root_.Go.ChangeSpec) : _root_.Go.OpenSpec := { _root_.Go.OpenSpec.ofChange s with cond := some uptoSmall }

/-- 'laws.FnExactDictionaryClashes', WHERE WHAT IT READS IS OF BULK AT MOST 1048576: true; the input reads as it did. -/
def fnExactDictionaryClashesUptoRow : OpenClaim := { program := "ytoidjdbhdkbfhaa", sum := "e9c97adbca7eec29384ba9ce5789c8835a26720e78f90515e7c1ab66094e80f6", func := "loop.example/shorthand/laws.FnExactDictionaryClashes", spec := "fnExactDictionaryClashes", inPlace := ["internal/bytealg.IndexByteString"], recurses := true, plainKeys := false, apart := false, narrowed := true }
def FnExactDictionaryClashesUptoSaid : Prop := fnExactDictionaryClashesUptoRow.holds Try.pinned (OpenSpec.upto fnExactDictionaryClashesSpec)

/-- 'laws.FnExactWrittenOf', WHERE WHAT IT READS IS OF BULK AT MOST 1048576: true; the input reads as it did. -/
def fnExactWrittenOfUptoRow : OpenClaim := { program := "ytoidjdbhdkbfhaa", sum := "e9c97adbca7eec29384ba9ce5789c8835a26720e78f90515e7c1ab66094e80f6", func := "loop.example/shorthand/laws.FnExactWrittenOf", spec := "fnExactWrittenOf", inPlace := ["internal/bytealg.IndexByteString"], plainKeys := false, apart := false, narrowed := true }
def FnExactWrittenOfUptoSaid : Prop := fnExactWrittenOfUptoRow.holds Try.pinned (OpenSpec.upto fnExactWrittenOfSpec)

/-- 'laws.FnExactDictionaryWritten', WHERE WHAT IT READS IS OF BULK AT MOST 1048576: true; the input reads as it did. -/
def fnExactDictionaryWrittenUptoRow : OpenClaim := { program := "ytoidjdbhdkbfhaa", sum := "e9c97adbca7eec29384ba9ce5789c8835a26720e78f90515e7c1ab66094e80f6", func := "loop.example/shorthand/laws.FnExactDictionaryWritten", spec := "fnExactDictionaryWritten", inPlace := ["internal/bytealg.IndexByteString"], plainKeys := false, apart := false, narrowed := true }
def FnExactDictionaryWrittenUptoSaid : Prop := fnExactDictionaryWrittenUptoRow.holds Try.pinned (OpenSpec.upto fnExactDictionaryWrittenSpec)

/-- 'laws.FnClashes', WHERE WHAT IT READS IS OF BULK AT MOST 1048576: true; the input reads as it did. -/
def fnClashesUptoRow : OpenClaim := { program := "ytoidjdbhdkbfhaa", sum := "e9c97adbca7eec29384ba9ce5789c8835a26720e78f90515e7c1ab66094e80f6", func := "loop.example/shorthand/laws.FnClashes", spec := "fnClashes", inPlace := ["internal/bytealg.IndexByteString"], recurses := true, plainKeys := false, apart := false, narrowed := true }
def FnClashesUptoSaid : Prop := fnClashesUptoRow.holds Try.pinned (OpenSpec.upto fnClashesSpec)

end Rows
end Go.Proofs.Ytoidjdbhdkbfhaa
