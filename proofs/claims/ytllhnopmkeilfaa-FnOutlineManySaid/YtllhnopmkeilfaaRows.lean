/-
  No cell of these rows narrows 'for every input' (looked for: loops, veiled, ifaces, maps, wideKeys, modest, calm, conditions, laid).
  DERIVED. THE GIVEN ROWS OF THIS SEAT. 12 by the template 'for every input the law returns true; each argument reads behind the call as it read before'; 0 by the template 'total and deterministic' (their statements: YtllhnopmkeilfaaTotals.lean).
  GIVEN WITH THE SEED: the statements are not yours to turn. If you find one false, say at which input.
  Laid BY PROGRAM, IN A SANDBOX (cutbox-rows.mjs): the forced cells as the released guide's own fill.sh prints them over the translation 2462f17b780b386f… (all of the seat's roots in one cut). By AI agents, Wed Nov 11 2026. No macro, syntax, notation, axiom, sorry.
-/
import Derived.Test.YtllhnopmkeilfaaChecked
import GoSem.Claim
import GoSem.ClaimJoined
import GoSem.ClaimMapViews
import Derived.JoinedTies
import Derived.KernelRfl
namespace Go.Proofs.Ytllhnopmkeilfaa
/- THE CELL 'sum', in the pinned program and in every row, IS THE sha256 OF THE DUMP (.gsa) THAT YtllhnopmkeilfaaProg.lean LOADS. Nothing in Lean hashes anything: it is a label: what it is worth is what the hold of that sum in a sandbox is worth. -/
noncomputable def Try.pinned : Pinned := { name := "ytllhnopmkeilfaa", sum := "2462f17b780b386f2bc80a62dc0af2b292461f65f762fbea6f605ae4825f31b2", checked := Try.checked }
namespace Rows
def none {H : Type} : Left H := { results := [], args := [] }

/-- 'laws.FnExactConstants': WHATEVER THE INPUT: true; the input reads as it did. -/
def fnExactConstantsSpec : ChangeSpec := { name := "fnExactConstants", fn := fun _ => fun
  | [] => { results := [.lit (.bool true)], args := [] }
  | _ => none }
def fnExactConstantsRow : OpenClaim := { program := "ytllhnopmkeilfaa", sum := "2462f17b780b386f2bc80a62dc0af2b292461f65f762fbea6f605ae4825f31b2", func := "loop.example/shorthand/laws.FnExactConstants", spec := "fnExactConstants", plainKeys := false, apart := false }
def FnExactConstantsSaid : Prop := fnExactConstantsRow.holds Try.pinned (OpenSpec.ofChange fnExactConstantsSpec)

/-- ITS FALSE NEIGHBOUR: 'it returns false'. Refute it at one input. -/
def fnExactConstantsWrong : ChangeSpec := { name := "fnExactConstants", fn := fun _ => fun
  | [] => { results := [.lit (.bool false)], args := [] }
  | _ => none }
def FnExactConstantsWrongFalsely : Prop := fnExactConstantsRow.holds Try.pinned (OpenSpec.ofChange fnExactConstantsWrong)

/-- 'laws.FnExactStrokeValid': WHATEVER THE INPUT: true; the input reads as it did. -/
def fnExactStrokeValidSpec : ChangeSpec := { name := "fnExactStrokeValid", fn := fun _ => fun
  | [d] => { results := [.lit (.bool true)], args := [d] }
  | _ => none }
def fnExactStrokeValidRow : OpenClaim := { program := "ytllhnopmkeilfaa", sum := "2462f17b780b386f2bc80a62dc0af2b292461f65f762fbea6f605ae4825f31b2", func := "loop.example/shorthand/laws.FnExactStrokeValid", spec := "fnExactStrokeValid", plainKeys := false, apart := false }
def FnExactStrokeValidSaid : Prop := fnExactStrokeValidRow.holds Try.pinned (OpenSpec.ofChange fnExactStrokeValidSpec)

/-- ITS FALSE NEIGHBOUR: 'it returns false'. Refute it at one input. -/
def fnExactStrokeValidWrong : ChangeSpec := { name := "fnExactStrokeValid", fn := fun _ => fun
  | [d] => { results := [.lit (.bool false)], args := [d] }
  | _ => none }
def FnExactStrokeValidWrongFalsely : Prop := fnExactStrokeValidRow.holds Try.pinned (OpenSpec.ofChange fnExactStrokeValidWrong)

/-- 'laws.FnExactWordValid': WHATEVER THE INPUT: true; the input reads as it did. -/
def fnExactWordValidSpec : ChangeSpec := { name := "fnExactWordValid", fn := fun _ => fun
  | [d] => { results := [.lit (.bool true)], args := [d] }
  | _ => none }
def fnExactWordValidRow : OpenClaim := { program := "ytllhnopmkeilfaa", sum := "2462f17b780b386f2bc80a62dc0af2b292461f65f762fbea6f605ae4825f31b2", func := "loop.example/shorthand/laws.FnExactWordValid", spec := "fnExactWordValid", plainKeys := false, apart := false }
def FnExactWordValidSaid : Prop := fnExactWordValidRow.holds Try.pinned (OpenSpec.ofChange fnExactWordValidSpec)

/-- ITS FALSE NEIGHBOUR: 'it returns false'. Refute it at one input. -/
def fnExactWordValidWrong : ChangeSpec := { name := "fnExactWordValid", fn := fun _ => fun
  | [d] => { results := [.lit (.bool false)], args := [d] }
  | _ => none }
def FnExactWordValidWrongFalsely : Prop := fnExactWordValidRow.holds Try.pinned (OpenSpec.ofChange fnExactWordValidWrong)

/-- 'laws.FnExactOutlineMany': WHATEVER THE INPUT: true; the input reads as it did. -/
def fnExactOutlineManySpec : ChangeSpec := { name := "fnExactOutlineMany", fn := fun _ => fun
  | [d] => { results := [.lit (.bool true)], args := [d] }
  | _ => none }
def fnExactOutlineManyRow : OpenClaim := { program := "ytllhnopmkeilfaa", sum := "2462f17b780b386f2bc80a62dc0af2b292461f65f762fbea6f605ae4825f31b2", func := "loop.example/shorthand/laws.FnExactOutlineMany", spec := "fnExactOutlineMany", plainKeys := false, apart := false }
def FnExactOutlineManySaid : Prop := fnExactOutlineManyRow.holds Try.pinned (OpenSpec.ofChange fnExactOutlineManySpec)

/-- ITS FALSE NEIGHBOUR: 'it returns false'. Refute it at one input. -/
def fnExactOutlineManyWrong : ChangeSpec := { name := "fnExactOutlineMany", fn := fun _ => fun
  | [d] => { results := [.lit (.bool false)], args := [d] }
  | _ => none }
def FnExactOutlineManyWrongFalsely : Prop := fnExactOutlineManyRow.holds Try.pinned (OpenSpec.ofChange fnExactOutlineManyWrong)

/-- 'laws.FnExactWordVowels': WHATEVER THE INPUT: true; the input reads as it did. -/
def fnExactWordVowelsSpec : ChangeSpec := { name := "fnExactWordVowels", fn := fun _ => fun
  | [d] => { results := [.lit (.bool true)], args := [d] }
  | _ => none }
def fnExactWordVowelsRow : OpenClaim := { program := "ytllhnopmkeilfaa", sum := "2462f17b780b386f2bc80a62dc0af2b292461f65f762fbea6f605ae4825f31b2", func := "loop.example/shorthand/laws.FnExactWordVowels", spec := "fnExactWordVowels", inPlace := ["internal/bytealg.IndexByteString"], plainKeys := false, apart := false }
def FnExactWordVowelsSaid : Prop := fnExactWordVowelsRow.holds Try.pinned (OpenSpec.ofChange fnExactWordVowelsSpec)

/-- ITS FALSE NEIGHBOUR: 'it returns false'. Refute it at one input. -/
def fnExactWordVowelsWrong : ChangeSpec := { name := "fnExactWordVowels", fn := fun _ => fun
  | [d] => { results := [.lit (.bool false)], args := [d] }
  | _ => none }
def FnExactWordVowelsWrongFalsely : Prop := fnExactWordVowelsRow.holds Try.pinned (OpenSpec.ofChange fnExactWordVowelsWrong)

/-- 'laws.FnExactWordBare': WHATEVER THE INPUT: true; the input reads as it did. -/
def fnExactWordBareSpec : ChangeSpec := { name := "fnExactWordBare", fn := fun _ => fun
  | [d] => { results := [.lit (.bool true)], args := [d] }
  | _ => none }
def fnExactWordBareRow : OpenClaim := { program := "ytllhnopmkeilfaa", sum := "2462f17b780b386f2bc80a62dc0af2b292461f65f762fbea6f605ae4825f31b2", func := "loop.example/shorthand/laws.FnExactWordBare", spec := "fnExactWordBare", inPlace := ["internal/bytealg.IndexByteString"], plainKeys := false, apart := false }
def FnExactWordBareSaid : Prop := fnExactWordBareRow.holds Try.pinned (OpenSpec.ofChange fnExactWordBareSpec)

/-- ITS FALSE NEIGHBOUR: 'it returns false'. Refute it at one input. -/
def fnExactWordBareWrong : ChangeSpec := { name := "fnExactWordBare", fn := fun _ => fun
  | [d] => { results := [.lit (.bool false)], args := [d] }
  | _ => none }
def FnExactWordBareWrongFalsely : Prop := fnExactWordBareRow.holds Try.pinned (OpenSpec.ofChange fnExactWordBareWrong)

/-- 'laws.FnDictionaryRead': WHATEVER THE INPUT: true; the input reads as it did. -/
def fnDictionaryReadSpec : ChangeSpec := { name := "fnDictionaryRead", fn := fun _ => fun
  | [d] => { results := [.lit (.bool true)], args := [d] }
  | _ => none }
def fnDictionaryReadRow : OpenClaim := { program := "ytllhnopmkeilfaa", sum := "2462f17b780b386f2bc80a62dc0af2b292461f65f762fbea6f605ae4825f31b2", func := "loop.example/shorthand/laws.FnDictionaryRead", spec := "fnDictionaryRead", inPlace := ["internal/bytealg.IndexByteString"], recurses := true, plainKeys := false, apart := false }
def FnDictionaryReadSaid : Prop := fnDictionaryReadRow.holds Try.pinned (OpenSpec.ofChange fnDictionaryReadSpec)

/-- ITS FALSE NEIGHBOUR: 'it returns false'. Refute it at one input. -/
def fnDictionaryReadWrong : ChangeSpec := { name := "fnDictionaryRead", fn := fun _ => fun
  | [d] => { results := [.lit (.bool false)], args := [d] }
  | _ => none }
def FnDictionaryReadWrongFalsely : Prop := fnDictionaryReadRow.holds Try.pinned (OpenSpec.ofChange fnDictionaryReadWrong)

/-- 'laws.FnExactSpeechValid': WHATEVER THE INPUT: true; the input reads as it did. -/
def fnExactSpeechValidSpec : ChangeSpec := { name := "fnExactSpeechValid", fn := fun _ => fun
  | [d] => { results := [.lit (.bool true)], args := [d] }
  | _ => none }
def fnExactSpeechValidRow : OpenClaim := { program := "ytllhnopmkeilfaa", sum := "2462f17b780b386f2bc80a62dc0af2b292461f65f762fbea6f605ae4825f31b2", func := "loop.example/shorthand/laws.FnExactSpeechValid", spec := "fnExactSpeechValid", plainKeys := false, apart := false }
def FnExactSpeechValidSaid : Prop := fnExactSpeechValidRow.holds Try.pinned (OpenSpec.ofChange fnExactSpeechValidSpec)

/-- ITS FALSE NEIGHBOUR: 'it returns false'. Refute it at one input. -/
def fnExactSpeechValidWrong : ChangeSpec := { name := "fnExactSpeechValid", fn := fun _ => fun
  | [d] => { results := [.lit (.bool false)], args := [d] }
  | _ => none }
def FnExactSpeechValidWrongFalsely : Prop := fnExactSpeechValidRow.holds Try.pinned (OpenSpec.ofChange fnExactSpeechValidWrong)

/-- 'laws.FnExactDictionaryValid': WHATEVER THE INPUT: true; the input reads as it did. -/
def fnExactDictionaryValidSpec : ChangeSpec := { name := "fnExactDictionaryValid", fn := fun _ => fun
  | [d] => { results := [.lit (.bool true)], args := [d] }
  | _ => none }
def fnExactDictionaryValidRow : OpenClaim := { program := "ytllhnopmkeilfaa", sum := "2462f17b780b386f2bc80a62dc0af2b292461f65f762fbea6f605ae4825f31b2", func := "loop.example/shorthand/laws.FnExactDictionaryValid", spec := "fnExactDictionaryValid", plainKeys := false, apart := false }
def FnExactDictionaryValidSaid : Prop := fnExactDictionaryValidRow.holds Try.pinned (OpenSpec.ofChange fnExactDictionaryValidSpec)

/-- ITS FALSE NEIGHBOUR: 'it returns false'. Refute it at one input. -/
def fnExactDictionaryValidWrong : ChangeSpec := { name := "fnExactDictionaryValid", fn := fun _ => fun
  | [d] => { results := [.lit (.bool false)], args := [d] }
  | _ => none }
def FnExactDictionaryValidWrongFalsely : Prop := fnExactDictionaryValidRow.holds Try.pinned (OpenSpec.ofChange fnExactDictionaryValidWrong)

/-- 'laws.FnExactWordPosition': WHATEVER THE INPUT: true; the input reads as it did. -/
def fnExactWordPositionSpec : ChangeSpec := { name := "fnExactWordPosition", fn := fun _ => fun
  | [d] => { results := [.lit (.bool true)], args := [d] }
  | _ => none }
def fnExactWordPositionRow : OpenClaim := { program := "ytllhnopmkeilfaa", sum := "2462f17b780b386f2bc80a62dc0af2b292461f65f762fbea6f605ae4825f31b2", func := "loop.example/shorthand/laws.FnExactWordPosition", spec := "fnExactWordPosition", inPlace := ["internal/bytealg.IndexByteString"], plainKeys := false, apart := false }
def FnExactWordPositionSaid : Prop := fnExactWordPositionRow.holds Try.pinned (OpenSpec.ofChange fnExactWordPositionSpec)

/-- ITS FALSE NEIGHBOUR: 'it returns false'. Refute it at one input. -/
def fnExactWordPositionWrong : ChangeSpec := { name := "fnExactWordPosition", fn := fun _ => fun
  | [d] => { results := [.lit (.bool false)], args := [d] }
  | _ => none }
def FnExactWordPositionWrongFalsely : Prop := fnExactWordPositionRow.holds Try.pinned (OpenSpec.ofChange fnExactWordPositionWrong)

/-- 'laws.FnOutlineMany': WHATEVER THE INPUT: true; the input reads as it did. -/
def fnOutlineManySpec : ChangeSpec := { name := "fnOutlineMany", fn := fun _ => fun
  | [d] => { results := [.lit (.bool true)], args := [d] }
  | _ => none }
def fnOutlineManyRow : OpenClaim := { program := "ytllhnopmkeilfaa", sum := "2462f17b780b386f2bc80a62dc0af2b292461f65f762fbea6f605ae4825f31b2", func := "loop.example/shorthand/laws.FnOutlineMany", spec := "fnOutlineMany", plainKeys := false, apart := false }
def FnOutlineManySaid : Prop := fnOutlineManyRow.holds Try.pinned (OpenSpec.ofChange fnOutlineManySpec)

/-- ITS FALSE NEIGHBOUR: 'it returns false'. Refute it at one input. -/
def fnOutlineManyWrong : ChangeSpec := { name := "fnOutlineMany", fn := fun _ => fun
  | [d] => { results := [.lit (.bool false)], args := [d] }
  | _ => none }
def FnOutlineManyWrongFalsely : Prop := fnOutlineManyRow.holds Try.pinned (OpenSpec.ofChange fnOutlineManyWrong)

/-- 'laws.FnExactOutlineValid': WHATEVER THE INPUT: true; the input reads as it did. -/
def fnExactOutlineValidSpec : ChangeSpec := { name := "fnExactOutlineValid", fn := fun _ => fun
  | [d] => { results := [.lit (.bool true)], args := [d] }
  | _ => none }
def fnExactOutlineValidRow : OpenClaim := { program := "ytllhnopmkeilfaa", sum := "2462f17b780b386f2bc80a62dc0af2b292461f65f762fbea6f605ae4825f31b2", func := "loop.example/shorthand/laws.FnExactOutlineValid", spec := "fnExactOutlineValid", plainKeys := false, apart := false }
def FnExactOutlineValidSaid : Prop := fnExactOutlineValidRow.holds Try.pinned (OpenSpec.ofChange fnExactOutlineValidSpec)

/-- ITS FALSE NEIGHBOUR: 'it returns false'. Refute it at one input. -/
def fnExactOutlineValidWrong : ChangeSpec := { name := "fnExactOutlineValid", fn := fun _ => fun
  | [d] => { results := [.lit (.bool false)], args := [d] }
  | _ => none }
def FnExactOutlineValidWrongFalsely : Prop := fnExactOutlineValidRow.holds Try.pinned (OpenSpec.ofChange fnExactOutlineValidWrong)

/- THE SECOND FORM. 'bulk': how many values and letters a reading holds, each counted each time it is reached (what is shared counts as often as it is met; a slice's spare places count too). A statement '..UptoSaid' is the law's where the arguments, and the package variables that the reading takes, are together of bulk at most 1048576: NARROWER than '..Said'. Prove '..Said' where nothing that the law and all that it calls make is longer than what came in: it says more and counts as full. Else prove '..UptoSaid'. A law counts once. -/
mutual
def uptoBulk {H : Type} : DataW H → Nat
  | .lit (.string bytes) => bytes.length + 1
  | .lit _ => 1
  | .nil => 1
  | .ptr d => uptoBulk d + 1
  | .slice elems spare => uptoBulkAll elems + uptoBulkAll spare + 1
  | .agg parts => uptoBulkAll parts + 1
  | .iface _ d => uptoBulk d + 1
  | .map entries => uptoBulkEntries entries + 1
  | .held _ => 1
def uptoBulkAll {H : Type} : List (DataW H) → Nat
  | [] => 0
  | d :: r => uptoBulk d + uptoBulkAll r
def uptoBulkEntries {H : Type} : List (Lit × DataW H) → Nat
  | [] => 0
  | x :: r => uptoBulkEntry x + uptoBulkEntries r
def uptoBulkEntry {H : Type} : Lit × DataW H → Nat
  | (.string bytes, d) => bytes.length + uptoBulk d + 1
  | (_, d) => uptoBulk d + 1
 end
def uptoSmall : (H : Type) → List (DataW H) → Bool := fun _ ds => decide (uptoBulkAll ds ≤ 1048576)
def OpenSpec.upto (s : _root_.Go.ChangeSpec) : _root_.Go.OpenSpec := { _root_.Go.OpenSpec.ofChange s with cond := some uptoSmall }

/-- 'laws.FnExactConstants', WHERE WHAT IT READS IS OF BULK AT MOST 1048576: true; the input reads as it did. -/
def fnExactConstantsUptoRow : OpenClaim := { program := "ytllhnopmkeilfaa", sum := "2462f17b780b386f2bc80a62dc0af2b292461f65f762fbea6f605ae4825f31b2", func := "loop.example/shorthand/laws.FnExactConstants", spec := "fnExactConstants", plainKeys := false, apart := false, narrowed := true }
def FnExactConstantsUptoSaid : Prop := fnExactConstantsUptoRow.holds Try.pinned (OpenSpec.upto fnExactConstantsSpec)

/-- 'laws.FnExactStrokeValid', WHERE WHAT IT READS IS OF BULK AT MOST 1048576: true; the input reads as it did. -/
def fnExactStrokeValidUptoRow : OpenClaim := { program := "ytllhnopmkeilfaa", sum := "2462f17b780b386f2bc80a62dc0af2b292461f65f762fbea6f605ae4825f31b2", func := "loop.example/shorthand/laws.FnExactStrokeValid", spec := "fnExactStrokeValid", plainKeys := false, apart := false, narrowed := true }
def FnExactStrokeValidUptoSaid : Prop := fnExactStrokeValidUptoRow.holds Try.pinned (OpenSpec.upto fnExactStrokeValidSpec)

/-- 'laws.FnExactWordValid', WHERE WHAT IT READS IS OF BULK AT MOST 1048576: true; the input reads as it did. -/
def fnExactWordValidUptoRow : OpenClaim := { program := "ytllhnopmkeilfaa", sum := "2462f17b780b386f2bc80a62dc0af2b292461f65f762fbea6f605ae4825f31b2", func := "loop.example/shorthand/laws.FnExactWordValid", spec := "fnExactWordValid", plainKeys := false, apart := false, narrowed := true }
def FnExactWordValidUptoSaid : Prop := fnExactWordValidUptoRow.holds Try.pinned (OpenSpec.upto fnExactWordValidSpec)

/-- 'laws.FnExactOutlineMany', WHERE WHAT IT READS IS OF BULK AT MOST 1048576: true; the input reads as it did. -/
def fnExactOutlineManyUptoRow : OpenClaim := { program := "ytllhnopmkeilfaa", sum := "2462f17b780b386f2bc80a62dc0af2b292461f65f762fbea6f605ae4825f31b2", func := "loop.example/shorthand/laws.FnExactOutlineMany", spec := "fnExactOutlineMany", plainKeys := false, apart := false, narrowed := true }
def FnExactOutlineManyUptoSaid : Prop := fnExactOutlineManyUptoRow.holds Try.pinned (OpenSpec.upto fnExactOutlineManySpec)

/-- 'laws.FnExactWordVowels', WHERE WHAT IT READS IS OF BULK AT MOST 1048576: true; the input reads as it did. -/
def fnExactWordVowelsUptoRow : OpenClaim := { program := "ytllhnopmkeilfaa", sum := "2462f17b780b386f2bc80a62dc0af2b292461f65f762fbea6f605ae4825f31b2", func := "loop.example/shorthand/laws.FnExactWordVowels", spec := "fnExactWordVowels", inPlace := ["internal/bytealg.IndexByteString"], plainKeys := false, apart := false, narrowed := true }
def FnExactWordVowelsUptoSaid : Prop := fnExactWordVowelsUptoRow.holds Try.pinned (OpenSpec.upto fnExactWordVowelsSpec)

/-- 'laws.FnExactWordBare', WHERE WHAT IT READS IS OF BULK AT MOST 1048576: true; the input reads as it did. -/
def fnExactWordBareUptoRow : OpenClaim := { program := "ytllhnopmkeilfaa", sum := "2462f17b780b386f2bc80a62dc0af2b292461f65f762fbea6f605ae4825f31b2", func := "loop.example/shorthand/laws.FnExactWordBare", spec := "fnExactWordBare", inPlace := ["internal/bytealg.IndexByteString"], plainKeys := false, apart := false, narrowed := true }
def FnExactWordBareUptoSaid : Prop := fnExactWordBareUptoRow.holds Try.pinned (OpenSpec.upto fnExactWordBareSpec)

/-- 'laws.FnDictionaryRead', WHERE WHAT IT READS IS OF BULK AT MOST 1048576: true; the input reads as it did. -/
def fnDictionaryReadUptoRow : OpenClaim := { program := "ytllhnopmkeilfaa", sum := "2462f17b780b386f2bc80a62dc0af2b292461f65f762fbea6f605ae4825f31b2", func := "loop.example/shorthand/laws.FnDictionaryRead", spec := "fnDictionaryRead", inPlace := ["internal/bytealg.IndexByteString"], recurses := true, plainKeys := false, apart := false, narrowed := true }
def FnDictionaryReadUptoSaid : Prop := fnDictionaryReadUptoRow.holds Try.pinned (OpenSpec.upto fnDictionaryReadSpec)

/-- 'laws.FnExactSpeechValid', WHERE WHAT IT READS IS OF BULK AT MOST 1048576: true; the input reads as it did. -/
def fnExactSpeechValidUptoRow : OpenClaim := { program := "ytllhnopmkeilfaa", sum := "2462f17b780b386f2bc80a62dc0af2b292461f65f762fbea6f605ae4825f31b2", func := "loop.example/shorthand/laws.FnExactSpeechValid", spec := "fnExactSpeechValid", plainKeys := false, apart := false, narrowed := true }
def FnExactSpeechValidUptoSaid : Prop := fnExactSpeechValidUptoRow.holds Try.pinned (OpenSpec.upto fnExactSpeechValidSpec)

/-- 'laws.FnExactDictionaryValid', WHERE WHAT IT READS IS OF BULK AT MOST 1048576: true; the input reads as it did. -/
def fnExactDictionaryValidUptoRow : OpenClaim := { program := "ytllhnopmkeilfaa", sum := "2462f17b780b386f2bc80a62dc0af2b292461f65f762fbea6f605ae4825f31b2", func := "loop.example/shorthand/laws.FnExactDictionaryValid", spec := "fnExactDictionaryValid", plainKeys := false, apart := false, narrowed := true }
def FnExactDictionaryValidUptoSaid : Prop := fnExactDictionaryValidUptoRow.holds Try.pinned (OpenSpec.upto fnExactDictionaryValidSpec)

/-- 'laws.FnExactWordPosition', WHERE WHAT IT READS IS OF BULK AT MOST 1048576: true; the input reads as it did. -/
def fnExactWordPositionUptoRow : OpenClaim := { program := "ytllhnopmkeilfaa", sum := "2462f17b780b386f2bc80a62dc0af2b292461f65f762fbea6f605ae4825f31b2", func := "loop.example/shorthand/laws.FnExactWordPosition", spec := "fnExactWordPosition", inPlace := ["internal/bytealg.IndexByteString"], plainKeys := false, apart := false, narrowed := true }
def FnExactWordPositionUptoSaid : Prop := fnExactWordPositionUptoRow.holds Try.pinned (OpenSpec.upto fnExactWordPositionSpec)

/-- 'laws.FnOutlineMany', WHERE WHAT IT READS IS OF BULK AT MOST 1048576: true; the input reads as it did. -/
def fnOutlineManyUptoRow : OpenClaim := { program := "ytllhnopmkeilfaa", sum := "2462f17b780b386f2bc80a62dc0af2b292461f65f762fbea6f605ae4825f31b2", func := "loop.example/shorthand/laws.FnOutlineMany", spec := "fnOutlineMany", plainKeys := false, apart := false, narrowed := true }
def FnOutlineManyUptoSaid : Prop := fnOutlineManyUptoRow.holds Try.pinned (OpenSpec.upto fnOutlineManySpec)

/-- 'laws.FnExactOutlineValid', WHERE WHAT IT READS IS OF BULK AT MOST 1048576: true; the input reads as it did. -/
def fnExactOutlineValidUptoRow : OpenClaim := { program := "ytllhnopmkeilfaa", sum := "2462f17b780b386f2bc80a62dc0af2b292461f65f762fbea6f605ae4825f31b2", func := "loop.example/shorthand/laws.FnExactOutlineValid", spec := "fnExactOutlineValid", plainKeys := false, apart := false, narrowed := true }
def FnExactOutlineValidUptoSaid : Prop := fnExactOutlineValidUptoRow.holds Try.pinned (OpenSpec.upto fnExactOutlineValidSpec)

end Rows
end Go.Proofs.Ytllhnopmkeilfaa
