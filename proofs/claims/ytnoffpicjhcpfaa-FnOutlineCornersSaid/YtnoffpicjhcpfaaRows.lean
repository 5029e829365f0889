/-
  No cell of these rows narrows 'for every input' (looked for: loops, veiled, ifaces, maps, wideKeys, modest, calm, conditions, laid).
  DERIVED. THE GIVEN ROWS OF THIS SEAT. 12 by the template 'for every input the law returns true; each argument reads behind the call as it read before'; 0 by the template 'total and deterministic' (their statements: YtnoffpicjhcpfaaTotals.lean).
  GIVEN WITH THE SEED: the statements are not yours to turn. If you find one false, say at which input.
  Laid BY PROGRAM, IN A SANDBOX (cutbox-rows.mjs): the forced cells as the released guide's own fill.sh prints them over the translation a19c3e640385cf83… (all of the seat's roots in one cut). By AI agents, Wed Nov 11 2026. No macro, syntax, notation, axiom, sorry.
-/
import Derived.Test.YtnoffpicjhcpfaaChecked
import GoSem.Claim
import GoSem.ClaimJoined
import GoSem.ClaimMapViews
import Derived.JoinedTies
import Derived.KernelRfl
namespace Go.Proofs.Ytnoffpicjhcpfaa
/- THE CELL 'sum', in the pinned program and in every row, IS THE sha256 OF THE DUMP (.gsa) THAT YtnoffpicjhcpfaaProg.lean LOADS. Nothing in Lean hashes anything: it is a label: what it is worth is what the hold of that sum in a sandbox is worth. -/
noncomputable def Try.pinned : Pinned := { name := "ytnoffpicjhcpfaa", sum := "a19c3e640385cf83553693e5ffb43f63dd106b3756b9ac738d9095c8faa88835", checked := Try.checked }
namespace Rows
def none {H : Type} : Left H := { results := [], args := [] }

/-- 'laws.FnWordBare': WHATEVER THE INPUT: true; the input reads as it did. -/
def fnWordBareSpec : ChangeSpec := { name := "fnWordBare", fn := fun _ => fun
  | [d] => { results := [.lit (.bool true)], args := [d] }
  | _ => none }
def fnWordBareRow : OpenClaim := { program := "ytnoffpicjhcpfaa", sum := "a19c3e640385cf83553693e5ffb43f63dd106b3756b9ac738d9095c8faa88835", func := "loop.example/shorthand/laws.FnWordBare", spec := "fnWordBare", inPlace := ["internal/bytealg.IndexByteString"], apart := false }
def FnWordBareSaid : Prop := fnWordBareRow.holds Try.pinned (OpenSpec.ofChange fnWordBareSpec)

/-- ITS FALSE NEIGHBOUR: 'it returns false'. Refute it at one input. -/
def fnWordBareWrong : ChangeSpec := { name := "fnWordBare", fn := fun _ => fun
  | [d] => { results := [.lit (.bool false)], args := [d] }
  | _ => none }
def FnWordBareWrongFalsely : Prop := fnWordBareRow.holds Try.pinned (OpenSpec.ofChange fnWordBareWrong)

/-- 'laws.FnWordVowels': WHATEVER THE INPUT: true; the input reads as it did. -/
def fnWordVowelsSpec : ChangeSpec := { name := "fnWordVowels", fn := fun _ => fun
  | [d] => { results := [.lit (.bool true)], args := [d] }
  | _ => none }
def fnWordVowelsRow : OpenClaim := { program := "ytnoffpicjhcpfaa", sum := "a19c3e640385cf83553693e5ffb43f63dd106b3756b9ac738d9095c8faa88835", func := "loop.example/shorthand/laws.FnWordVowels", spec := "fnWordVowels", inPlace := ["internal/bytealg.IndexByteString"], apart := false }
def FnWordVowelsSaid : Prop := fnWordVowelsRow.holds Try.pinned (OpenSpec.ofChange fnWordVowelsSpec)

/-- ITS FALSE NEIGHBOUR: 'it returns false'. Refute it at one input. -/
def fnWordVowelsWrong : ChangeSpec := { name := "fnWordVowels", fn := fun _ => fun
  | [d] => { results := [.lit (.bool false)], args := [d] }
  | _ => none }
def FnWordVowelsWrongFalsely : Prop := fnWordVowelsRow.holds Try.pinned (OpenSpec.ofChange fnWordVowelsWrong)

/-- 'laws.FnExactOutlineCorners': WHATEVER THE INPUT: true; the input reads as it did. -/
def fnExactOutlineCornersSpec : ChangeSpec := { name := "fnExactOutlineCorners", fn := fun _ => fun
  | [d] => { results := [.lit (.bool true)], args := [d] }
  | _ => none }
def fnExactOutlineCornersRow : OpenClaim := { program := "ytnoffpicjhcpfaa", sum := "a19c3e640385cf83553693e5ffb43f63dd106b3756b9ac738d9095c8faa88835", func := "loop.example/shorthand/laws.FnExactOutlineCorners", spec := "fnExactOutlineCorners", apart := false }
def FnExactOutlineCornersSaid : Prop := fnExactOutlineCornersRow.holds Try.pinned (OpenSpec.ofChange fnExactOutlineCornersSpec)

/-- ITS FALSE NEIGHBOUR: 'it returns false'. Refute it at one input. -/
def fnExactOutlineCornersWrong : ChangeSpec := { name := "fnExactOutlineCorners", fn := fun _ => fun
  | [d] => { results := [.lit (.bool false)], args := [d] }
  | _ => none }
def FnExactOutlineCornersWrongFalsely : Prop := fnExactOutlineCornersRow.holds Try.pinned (OpenSpec.ofChange fnExactOutlineCornersWrong)

/-- 'laws.FnExactSpeechVaries': WHATEVER THE INPUT: true; the input reads as it did. -/
def fnExactSpeechVariesSpec : ChangeSpec := { name := "fnExactSpeechVaries", fn := fun _ => fun
  | [d] => { results := [.lit (.bool true)], args := [d] }
  | _ => none }
def fnExactSpeechVariesRow : OpenClaim := { program := "ytnoffpicjhcpfaa", sum := "a19c3e640385cf83553693e5ffb43f63dd106b3756b9ac738d9095c8faa88835", func := "loop.example/shorthand/laws.FnExactSpeechVaries", spec := "fnExactSpeechVaries", apart := false }
def FnExactSpeechVariesSaid : Prop := fnExactSpeechVariesRow.holds Try.pinned (OpenSpec.ofChange fnExactSpeechVariesSpec)

/-- ITS FALSE NEIGHBOUR: 'it returns false'. Refute it at one input. -/
def fnExactSpeechVariesWrong : ChangeSpec := { name := "fnExactSpeechVaries", fn := fun _ => fun
  | [d] => { results := [.lit (.bool false)], args := [d] }
  | _ => none }
def FnExactSpeechVariesWrongFalsely : Prop := fnExactSpeechVariesRow.holds Try.pinned (OpenSpec.ofChange fnExactSpeechVariesWrong)

/-- 'laws.FnOutlineCorners': WHATEVER THE INPUT: true; the input reads as it did. -/
def fnOutlineCornersSpec : ChangeSpec := { name := "fnOutlineCorners", fn := fun _ => fun
  | [d1, d2] => { results := [.lit (.bool true)], args := [d1, d2] }
  | _ => none }
def fnOutlineCornersRow : OpenClaim := { program := "ytnoffpicjhcpfaa", sum := "a19c3e640385cf83553693e5ffb43f63dd106b3756b9ac738d9095c8faa88835", func := "loop.example/shorthand/laws.FnOutlineCorners", spec := "fnOutlineCorners", apart := false }
def FnOutlineCornersSaid : Prop := fnOutlineCornersRow.holds Try.pinned (OpenSpec.ofChange fnOutlineCornersSpec)

/-- ITS FALSE NEIGHBOUR: 'it returns false'. Refute it at one input. -/
def fnOutlineCornersWrong : ChangeSpec := { name := "fnOutlineCorners", fn := fun _ => fun
  | [d1, d2] => { results := [.lit (.bool false)], args := [d1, d2] }
  | _ => none }
def FnOutlineCornersWrongFalsely : Prop := fnOutlineCornersRow.holds Try.pinned (OpenSpec.ofChange fnOutlineCornersWrong)

/-- 'laws.FnExactWrittenValid': WHATEVER THE INPUT: true; the input reads as it did. -/
def fnExactWrittenValidSpec : ChangeSpec := { name := "fnExactWrittenValid", fn := fun _ => fun
  | [d] => { results := [.lit (.bool true)], args := [d] }
  | _ => none }
def fnExactWrittenValidRow : OpenClaim := { program := "ytnoffpicjhcpfaa", sum := "a19c3e640385cf83553693e5ffb43f63dd106b3756b9ac738d9095c8faa88835", func := "loop.example/shorthand/laws.FnExactWrittenValid", spec := "fnExactWrittenValid", apart := false }
def FnExactWrittenValidSaid : Prop := fnExactWrittenValidRow.holds Try.pinned (OpenSpec.ofChange fnExactWrittenValidSpec)

/-- ITS FALSE NEIGHBOUR: 'it returns false'. Refute it at one input. -/
def fnExactWrittenValidWrong : ChangeSpec := { name := "fnExactWrittenValid", fn := fun _ => fun
  | [d] => { results := [.lit (.bool false)], args := [d] }
  | _ => none }
def FnExactWrittenValidWrongFalsely : Prop := fnExactWrittenValidRow.holds Try.pinned (OpenSpec.ofChange fnExactWrittenValidWrong)

/-- 'laws.FnVaries': WHATEVER THE INPUT: true; the input reads as it did. -/
def fnVariesSpec : ChangeSpec := { name := "fnVaries", fn := fun _ => fun
  | [d1, d2] => { results := [.lit (.bool true)], args := [d1, d2] }
  | _ => none }
def fnVariesRow : OpenClaim := { program := "ytnoffpicjhcpfaa", sum := "a19c3e640385cf83553693e5ffb43f63dd106b3756b9ac738d9095c8faa88835", func := "loop.example/shorthand/laws.FnVaries", spec := "fnVaries", apart := false }
def FnVariesSaid : Prop := fnVariesRow.holds Try.pinned (OpenSpec.ofChange fnVariesSpec)

/-- ITS FALSE NEIGHBOUR: 'it returns false'. Refute it at one input. -/
def fnVariesWrong : ChangeSpec := { name := "fnVaries", fn := fun _ => fun
  | [d1, d2] => { results := [.lit (.bool false)], args := [d1, d2] }
  | _ => none }
def FnVariesWrongFalsely : Prop := fnVariesRow.holds Try.pinned (OpenSpec.ofChange fnVariesWrong)

/-- 'laws.FnPosition': WHATEVER THE INPUT: true; the input reads as it did. -/
def fnPositionSpec : ChangeSpec := { name := "fnPosition", fn := fun _ => fun
  | [d] => { results := [.lit (.bool true)], args := [d] }
  | _ => none }
def fnPositionRow : OpenClaim := { program := "ytnoffpicjhcpfaa", sum := "a19c3e640385cf83553693e5ffb43f63dd106b3756b9ac738d9095c8faa88835", func := "loop.example/shorthand/laws.FnPosition", spec := "fnPosition", inPlace := ["internal/bytealg.IndexByteString"], apart := false }
def FnPositionSaid : Prop := fnPositionRow.holds Try.pinned (OpenSpec.ofChange fnPositionSpec)

/-- ITS FALSE NEIGHBOUR: 'it returns false'. Refute it at one input. -/
def fnPositionWrong : ChangeSpec := { name := "fnPosition", fn := fun _ => fun
  | [d] => { results := [.lit (.bool false)], args := [d] }
  | _ => none }
def FnPositionWrongFalsely : Prop := fnPositionRow.holds Try.pinned (OpenSpec.ofChange fnPositionWrong)

/-- 'laws.FnExactOutlineJoin': WHATEVER THE INPUT: true; the input reads as it did. -/
def fnExactOutlineJoinSpec : ChangeSpec := { name := "fnExactOutlineJoin", fn := fun _ => fun
  | [d1, d2] => { results := [.lit (.bool true)], args := [d1, d2] }
  | _ => none }
def fnExactOutlineJoinRow : OpenClaim := { program := "ytnoffpicjhcpfaa", sum := "a19c3e640385cf83553693e5ffb43f63dd106b3756b9ac738d9095c8faa88835", func := "loop.example/shorthand/laws.FnExactOutlineJoin", spec := "fnExactOutlineJoin", apart := false }
def FnExactOutlineJoinSaid : Prop := fnExactOutlineJoinRow.holds Try.pinned (OpenSpec.ofChange fnExactOutlineJoinSpec)

/-- ITS FALSE NEIGHBOUR: 'it returns false'. Refute it at one input. -/
def fnExactOutlineJoinWrong : ChangeSpec := { name := "fnExactOutlineJoin", fn := fun _ => fun
  | [d1, d2] => { results := [.lit (.bool false)], args := [d1, d2] }
  | _ => none }
def FnExactOutlineJoinWrongFalsely : Prop := fnExactOutlineJoinRow.holds Try.pinned (OpenSpec.ofChange fnExactOutlineJoinWrong)

/-- 'laws.FnExactOutlineFrom': WHATEVER THE INPUT: true; the input reads as it did. -/
def fnExactOutlineFromSpec : ChangeSpec := { name := "fnExactOutlineFrom", fn := fun _ => fun
  | [d] => { results := [.lit (.bool true)], args := [d] }
  | _ => none }
def fnExactOutlineFromRow : OpenClaim := { program := "ytnoffpicjhcpfaa", sum := "a19c3e640385cf83553693e5ffb43f63dd106b3756b9ac738d9095c8faa88835", func := "loop.example/shorthand/laws.FnExactOutlineFrom", spec := "fnExactOutlineFrom", inPlace := ["internal/bytealg.IndexByteString"], apart := false }
def FnExactOutlineFromSaid : Prop := fnExactOutlineFromRow.holds Try.pinned (OpenSpec.ofChange fnExactOutlineFromSpec)

/-- ITS FALSE NEIGHBOUR: 'it returns false'. Refute it at one input. -/
def fnExactOutlineFromWrong : ChangeSpec := { name := "fnExactOutlineFrom", fn := fun _ => fun
  | [d] => { results := [.lit (.bool false)], args := [d] }
  | _ => none }
def FnExactOutlineFromWrongFalsely : Prop := fnExactOutlineFromRow.holds Try.pinned (OpenSpec.ofChange fnExactOutlineFromWrong)

/-- 'laws.FnExactLineValid': WHATEVER THE INPUT: true; the input reads as it did. -/
def fnExactLineValidSpec : ChangeSpec := { name := "fnExactLineValid", fn := fun _ => fun
  | [d] => { results := [.lit (.bool true)], args := [d] }
  | _ => none }
def fnExactLineValidRow : OpenClaim := { program := "ytnoffpicjhcpfaa", sum := "a19c3e640385cf83553693e5ffb43f63dd106b3756b9ac738d9095c8faa88835", func := "loop.example/shorthand/laws.FnExactLineValid", spec := "fnExactLineValid", apart := false }
def FnExactLineValidSaid : Prop := fnExactLineValidRow.holds Try.pinned (OpenSpec.ofChange fnExactLineValidSpec)

/-- ITS FALSE NEIGHBOUR: 'it returns false'. Refute it at one input. -/
def fnExactLineValidWrong : ChangeSpec := { name := "fnExactLineValid", fn := fun _ => fun
  | [d] => { results := [.lit (.bool false)], args := [d] }
  | _ => none }
def FnExactLineValidWrongFalsely : Prop := fnExactLineValidRow.holds Try.pinned (OpenSpec.ofChange fnExactLineValidWrong)

/-- 'laws.FnExactWrittenFrom': WHATEVER THE INPUT: true; the input reads as it did. -/
def fnExactWrittenFromSpec : ChangeSpec := { name := "fnExactWrittenFrom", fn := fun _ => fun
  | [d] => { results := [.lit (.bool true)], args := [d] }
  | _ => none }
def fnExactWrittenFromRow : OpenClaim := { program := "ytnoffpicjhcpfaa", sum := "a19c3e640385cf83553693e5ffb43f63dd106b3756b9ac738d9095c8faa88835", func := "loop.example/shorthand/laws.FnExactWrittenFrom", spec := "fnExactWrittenFrom", inPlace := ["internal/bytealg.IndexByteString"], apart := false }
def FnExactWrittenFromSaid : Prop := fnExactWrittenFromRow.holds Try.pinned (OpenSpec.ofChange fnExactWrittenFromSpec)

/-- ITS FALSE NEIGHBOUR: 'it returns false'. Refute it at one input. -/
def fnExactWrittenFromWrong : ChangeSpec := { name := "fnExactWrittenFrom", fn := fun _ => fun
  | [d] => { results := [.lit (.bool false)], args := [d] }
  | _ => none }
def FnExactWrittenFromWrongFalsely : Prop := fnExactWrittenFromRow.holds Try.pinned (OpenSpec.ofChange fnExactWrittenFromWrong)

/- THE SECOND FORM. 'bulk': how many values and letters a reading holds, each counted each time it is reached (what is shared counts as often as it is met; a slice's spare places count too). A statement '..UptoSaid' is the law's where the arguments, and the package variables that the reading takes, are together of bulk at most 1048576: NARROWER than '..Said'. Prove '..Said' where nothing that the law and all that it calls make is longer than what came in: it says more and counts as full. Else prove '..UptoSaid'. A law counts once. -/
mutual
def uptoBulk {H : Type} : DataW H → Nat
  | .lit (.string bytes) => bytes.length + 1
  | .lit _ => 1
  | .nil => 1
  | .ptr d => uptoBulk d + 1
  | .slice elems spare => uptoBulkAll elems + uptoBulkAll spare + 1
  | .agg parts => uptoBulkAll parts + 1
  | .iface _ d => uptoBulk d + 1
  | .map entries => uptoBulkEntries entries + 1
  | .held _ => 1
def uptoBulkAll {H : Type} : List (DataW H) → Nat
  | [] => 0
  | d :: r => uptoBulk d + uptoBulkAll r
def uptoBulkEntries {H : Type} : List (Lit × DataW H) → Nat
  | [] => 0
  | x :: r => uptoBulkEntry x + uptoBulkEntries r
def uptoBulkEntry {H : Type} : Lit × DataW H → Nat
  | (.string bytes, d) => bytes.length + uptoBulk d + 1
  | (_, d) => uptoBulk d + 1
 end
def uptoSmall : (H : Type) → List (DataW H) → Bool := fun _ ds => decide (uptoBulkAll ds ≤ 1048576)
def OpenSpec.upto (s : _root_.Go.ChangeSpec) : _root_.Go.OpenSpec := { _root_.Go.OpenSpec.ofChange s with cond := some uptoSmall }

/-- 'laws.FnWordBare', WHERE WHAT IT READS IS OF BULK AT MOST 1048576: true; the input reads as it did. -/
def fnWordBareUptoRow : OpenClaim := { program := "ytnoffpicjhcpfaa", sum := "a19c3e640385cf83553693e5ffb43f63dd106b3756b9ac738d9095c8faa88835", func := "loop.example/shorthand/laws.FnWordBare", spec := "fnWordBare", inPlace := ["internal/bytealg.IndexByteString"], apart := false, narrowed := true }
def FnWordBareUptoSaid : Prop := fnWordBareUptoRow.holds Try.pinned (OpenSpec.upto fnWordBareSpec)

/-- 'laws.FnWordVowels', WHERE WHAT IT READS IS OF BULK AT MOST 1048576: true; the input reads as it did. -/
def fnWordVowelsUptoRow : OpenClaim := { program := "ytnoffpicjhcpfaa", sum := "a19c3e640385cf83553693e5ffb43f63dd106b3756b9ac738d9095c8faa88835", func := "loop.example/shorthand/laws.FnWordVowels", spec := "fnWordVowels", inPlace := ["internal/bytealg.IndexByteString"], apart := false, narrowed := true }
def FnWordVowelsUptoSaid : Prop := fnWordVowelsUptoRow.holds Try.pinned (OpenSpec.upto fnWordVowelsSpec)

/-- 'laws.FnExactOutlineCorners', WHERE WHAT IT READS IS OF BULK AT MOST 1048576: true; the input reads as it did. -/
def fnExactOutlineCornersUptoRow : OpenClaim := { program := "ytnoffpicjhcpfaa", sum := "a19c3e640385cf83553693e5ffb43f63dd106b3756b9ac738d9095c8faa88835", func := "loop.example/shorthand/laws.FnExactOutlineCorners", spec := "fnExactOutlineCorners", apart := false, narrowed := true }
def FnExactOutlineCornersUptoSaid : Prop := fnExactOutlineCornersUptoRow.holds Try.pinned (OpenSpec.upto fnExactOutlineCornersSpec)

/-- 'laws.FnExactSpeechVaries', WHERE WHAT IT READS IS OF BULK AT MOST 1048576: true; the input reads as it did. -/
def fnExactSpeechVariesUptoRow : OpenClaim := { program := "ytnoffpicjhcpfaa", sum := "a19c3e640385cf83553693e5ffb43f63dd106b3756b9ac738d9095c8faa88835", func := "loop.example/shorthand/laws.FnExactSpeechVaries", spec := "fnExactSpeechVaries", apart := false, narrowed := true }
def FnExactSpeechVariesUptoSaid : Prop := fnExactSpeechVariesUptoRow.holds Try.pinned (OpenSpec.upto fnExactSpeechVariesSpec)

/-- 'laws.FnOutlineCorners', WHERE WHAT IT READS IS OF BULK AT MOST 1048576: true; the input reads as it did. -/
def fnOutlineCornersUptoRow : OpenClaim := { program := "ytnoffpicjhcpfaa", sum := "a19c3e640385cf83553693e5ffb43f63dd106b3756b9ac738d9095c8faa88835", func := "loop.example/shorthand/laws.FnOutlineCorners", spec := "fnOutlineCorners", apart := false, narrowed := true }
def FnOutlineCornersUptoSaid : Prop := fnOutlineCornersUptoRow.holds Try.pinned (OpenSpec.upto fnOutlineCornersSpec)

/-- 'laws.FnExactWrittenValid', WHERE WHAT IT READS IS OF BULK AT MOST 1048576: true; the input reads as it did. -/
def fnExactWrittenValidUptoRow : OpenClaim := { program := "ytnoffpicjhcpfaa", sum := "a19c3e640385cf83553693e5ffb43f63dd106b3756b9ac738d9095c8faa88835", func := "loop.example/shorthand/laws.FnExactWrittenValid", spec := "fnExactWrittenValid", apart := false, narrowed := true }
def FnExactWrittenValidUptoSaid : Prop := fnExactWrittenValidUptoRow.holds Try.pinned (OpenSpec.upto fnExactWrittenValidSpec)

/-- 'laws.FnVaries', WHERE WHAT IT READS IS OF BULK AT MOST 1048576: true; the input reads as it did. -/
def fnVariesUptoRow : OpenClaim := { program := "ytnoffpicjhcpfaa", sum := "a19c3e640385cf83553693e5ffb43f63dd106b3756b9ac738d9095c8faa88835", func := "loop.example/shorthand/laws.FnVaries", spec := "fnVaries", apart := false, narrowed := true }
def FnVariesUptoSaid : Prop := fnVariesUptoRow.holds Try.pinned (OpenSpec.upto fnVariesSpec)

/-- 'laws.FnPosition', WHERE WHAT IT READS IS OF BULK AT MOST 1048576: true; the input reads as it did. -/
def fnPositionUptoRow : OpenClaim := { program := "ytnoffpicjhcpfaa", sum := "a19c3e640385cf83553693e5ffb43f63dd106b3756b9ac738d9095c8faa88835", func := "loop.example/shorthand/laws.FnPosition", spec := "fnPosition", inPlace := ["internal/bytealg.IndexByteString"], apart := false, narrowed := true }
def FnPositionUptoSaid : Prop := fnPositionUptoRow.holds Try.pinned (OpenSpec.upto fnPositionSpec)

/-- 'laws.FnExactOutlineJoin', WHERE WHAT IT READS IS OF BULK AT MOST 1048576: true; the input reads as it did. -/
def fnExactOutlineJoinUptoRow : OpenClaim := { program := "ytnoffpicjhcpfaa", sum := "a19c3e640385cf83553693e5ffb43f63dd106b3756b9ac738d9095c8faa88835", func := "loop.example/shorthand/laws.FnExactOutlineJoin", spec := "fnExactOutlineJoin", apart := false, narrowed := true }
def FnExactOutlineJoinUptoSaid : Prop := fnExactOutlineJoinUptoRow.holds Try.pinned (OpenSpec.upto fnExactOutlineJoinSpec)

/-- 'laws.FnExactOutlineFrom', WHERE WHAT IT READS IS OF BULK AT MOST 1048576: true; the input reads as it did. -/
def fnExactOutlineFromUptoRow : OpenClaim := { program := "ytnoffpicjhcpfaa", sum := "a19c3e640385cf83553693e5ffb43f63dd106b3756b9ac738d9095c8faa88835", func := "loop.example/shorthand/laws.FnExactOutlineFrom", spec := "fnExactOutlineFrom", inPlace := ["internal/bytealg.IndexByteString"], apart := false, narrowed := true }
def FnExactOutlineFromUptoSaid : Prop := fnExactOutlineFromUptoRow.holds Try.pinned (OpenSpec.upto fnExactOutlineFromSpec)

/-- 'laws.FnExactLineValid', WHERE WHAT IT READS IS OF BULK AT MOST 1048576: true; the input reads as it did. -/
def fnExactLineValidUptoRow : OpenClaim := { program := "ytnoffpicjhcpfaa", sum := "a19c3e640385cf83553693e5ffb43f63dd106b3756b9ac738d9095c8faa88835", func := "loop.example/shorthand/laws.FnExactLineValid", spec := "fnExactLineValid", apart := false, narrowed := true }
def FnExactLineValidUptoSaid : Prop := fnExactLineValidUptoRow.holds Try.pinned (OpenSpec.upto fnExactLineValidSpec)

/-- 'laws.FnExactWrittenFrom', WHERE WHAT IT READS IS OF BULK AT MOST 1048576: true; the input reads as it did. -/
def fnExactWrittenFromUptoRow : OpenClaim := { program := "ytnoffpicjhcpfaa", sum := "a19c3e640385cf83553693e5ffb43f63dd106b3756b9ac738d9095c8faa88835", func := "loop.example/shorthand/laws.FnExactWrittenFrom", spec := "fnExactWrittenFrom", inPlace := ["internal/bytealg.IndexByteString"], apart := false, narrowed := true }
def FnExactWrittenFromUptoSaid : Prop := fnExactWrittenFromUptoRow.holds Try.pinned (OpenSpec.upto fnExactWrittenFromSpec)

end Rows
end Go.Proofs.Ytnoffpicjhcpfaa
