/-
  No cell of these rows narrows 'for every input' (looked for: loops, veiled, ifaces, maps, wideKeys, modest, calm, conditions, laid).
  DERIVED. THE GIVEN ROWS OF THIS SEAT. 12 by the template 'for every input the law returns true; each argument reads behind the call as it read before'; 0 by the template 'total and deterministic' (their statements: YtniemanapimjoaaTotals.lean).
  GIVEN WITH THE SEED: the statements are not yours to turn. If you find one false, say at which input.
  Laid BY PROGRAM, IN A SANDBOX (cutbox-rows.mjs): the forced cells as the released guide's own fill.sh prints them over the translation fa4bd3f61221f198… (all of the seat's roots in one cut). By AI agents, Wed Nov 11 2026. No macro, syntax, notation, axiom, sorry.
-/
import Derived.Test.YtniemanapimjoaaChecked
import GoSem.Claim
import GoSem.ClaimJoined
import GoSem.ClaimMapViews
import Derived.JoinedTies
import Derived.KernelRfl
namespace Go.Proofs.Ytniemanapimjoaa
/- THE CELL 'sum', in the pinned program and in every row, IS THE sha256 OF THE DUMP (.gsa) THAT YtniemanapimjoaaProg.lean LOADS. Nothing in Lean hashes anything: it is a label: what it is worth is what the hold of that sum in a sandbox is worth. -/
noncomputable def Try.pinned : Pinned := { name := "ytniemanapimjoaa", sum := "fa4bd3f61221f1984fabbad6a159769604273f2e3f7705fb307a375f4a2af0cf", checked := Try.checked }
namespace Rows
def none {H : Type} : Left H := { results := [], args := [] }

/-- 'laws.FnExactDictionaryRead': WHATEVER THE INPUT: true; the input reads as it did. -/
def fnExactDictionaryReadSpec : ChangeSpec := { name := "fnExactDictionaryRead", fn := fun _ => fun
  | [d1, d2, d3] => { results := [.lit (.bool true)], args := [d1, d2, d3] }
  | _ => none }
def fnExactDictionaryReadRow : OpenClaim := { program := "ytniemanapimjoaa", sum := "fa4bd3f61221f1984fabbad6a159769604273f2e3f7705fb307a375f4a2af0cf", func := "loop.example/shorthand/laws.FnExactDictionaryRead", spec := "fnExactDictionaryRead", inPlace := ["internal/bytealg.IndexByteString"], recurses := true, plainKeys := false, apart := false }
def FnExactDictionaryReadSaid : Prop := fnExactDictionaryReadRow.holds Try.pinned (OpenSpec.ofChange fnExactDictionaryReadSpec)

/-- ITS FALSE NEIGHBOUR: 'it returns false'. Refute it at one input. -/
def fnExactDictionaryReadWrong : ChangeSpec := { name := "fnExactDictionaryRead", fn := fun _ => fun
  | [d1, d2, d3] => { results := [.lit (.bool false)], args := [d1, d2, d3] }
  | _ => none }
def FnExactDictionaryReadWrongFalsely : Prop := fnExactDictionaryReadRow.holds Try.pinned (OpenSpec.ofChange fnExactDictionaryReadWrong)

/-- 'laws.FnExactLineOf': WHATEVER THE INPUT: true; the input reads as it did. -/
def fnExactLineOfSpec : ChangeSpec := { name := "fnExactLineOf", fn := fun _ => fun
  | [d1, d2] => { results := [.lit (.bool true)], args := [d1, d2] }
  | _ => none }
def fnExactLineOfRow : OpenClaim := { program := "ytniemanapimjoaa", sum := "fa4bd3f61221f1984fabbad6a159769604273f2e3f7705fb307a375f4a2af0cf", func := "loop.example/shorthand/laws.FnExactLineOf", spec := "fnExactLineOf", inPlace := ["internal/bytealg.IndexByteString"], plainKeys := false, apart := false }
def FnExactLineOfSaid : Prop := fnExactLineOfRow.holds Try.pinned (OpenSpec.ofChange fnExactLineOfSpec)

/-- ITS FALSE NEIGHBOUR: 'it returns false'. Refute it at one input. -/
def fnExactLineOfWrong : ChangeSpec := { name := "fnExactLineOf", fn := fun _ => fun
  | [d1, d2] => { results := [.lit (.bool false)], args := [d1, d2] }
  | _ => none }
def FnExactLineOfWrongFalsely : Prop := fnExactLineOfRow.holds Try.pinned (OpenSpec.ofChange fnExactLineOfWrong)

/-- 'laws.FnExactSystemValid': WHATEVER THE INPUT: true; the input reads as it did. -/
def fnExactSystemValidSpec : ChangeSpec := { name := "fnExactSystemValid", fn := fun _ => fun
  | [d] => { results := [.lit (.bool true)], args := [d] }
  | _ => none }
def fnExactSystemValidRow : OpenClaim := { program := "ytniemanapimjoaa", sum := "fa4bd3f61221f1984fabbad6a159769604273f2e3f7705fb307a375f4a2af0cf", func := "loop.example/shorthand/laws.FnExactSystemValid", spec := "fnExactSystemValid", inPlace := ["internal/bytealg.IndexByteString"], plainKeys := false, apart := false }
def FnExactSystemValidSaid : Prop := fnExactSystemValidRow.holds Try.pinned (OpenSpec.ofChange fnExactSystemValidSpec)

/-- ITS FALSE NEIGHBOUR: 'it returns false'. Refute it at one input. -/
def fnExactSystemValidWrong : ChangeSpec := { name := "fnExactSystemValid", fn := fun _ => fun
  | [d] => { results := [.lit (.bool false)], args := [d] }
  | _ => none }
def FnExactSystemValidWrongFalsely : Prop := fnExactSystemValidRow.holds Try.pinned (OpenSpec.ofChange fnExactSystemValidWrong)

/-- 'laws.FnExactSystemStroke': WHATEVER THE INPUT: true; the input reads as it did. -/
def fnExactSystemStrokeSpec : ChangeSpec := { name := "fnExactSystemStroke", fn := fun _ => fun
  | [d1, d2] => { results := [.lit (.bool true)], args := [d1, d2] }
  | _ => none }
def fnExactSystemStrokeRow : OpenClaim := { program := "ytniemanapimjoaa", sum := "fa4bd3f61221f1984fabbad6a159769604273f2e3f7705fb307a375f4a2af0cf", func := "loop.example/shorthand/laws.FnExactSystemStroke", spec := "fnExactSystemStroke", inPlace := ["internal/bytealg.IndexByteString"], plainKeys := false, apart := false }
def FnExactSystemStrokeSaid : Prop := fnExactSystemStrokeRow.holds Try.pinned (OpenSpec.ofChange fnExactSystemStrokeSpec)

/-- ITS FALSE NEIGHBOUR: 'it returns false'. Refute it at one input. -/
def fnExactSystemStrokeWrong : ChangeSpec := { name := "fnExactSystemStroke", fn := fun _ => fun
  | [d1, d2] => { results := [.lit (.bool false)], args := [d1, d2] }
  | _ => none }
def FnExactSystemStrokeWrongFalsely : Prop := fnExactSystemStrokeRow.holds Try.pinned (OpenSpec.ofChange fnExactSystemStrokeWrong)

/-- 'laws.FnSystemAdd': WHATEVER THE INPUT: true; the input reads as it did. -/
def fnSystemAddSpec : ChangeSpec := { name := "fnSystemAdd", fn := fun _ => fun
  | [d] => { results := [.lit (.bool true)], args := [d] }
  | _ => none }
def fnSystemAddRow : OpenClaim := { program := "ytniemanapimjoaa", sum := "fa4bd3f61221f1984fabbad6a159769604273f2e3f7705fb307a375f4a2af0cf", func := "loop.example/shorthand/laws.FnSystemAdd", spec := "fnSystemAdd", inPlace := ["internal/bytealg.IndexByteString"], plainKeys := false, apart := false }
def FnSystemAddSaid : Prop := fnSystemAddRow.holds Try.pinned (OpenSpec.ofChange fnSystemAddSpec)

/-- ITS FALSE NEIGHBOUR: 'it returns false'. Refute it at one input. -/
def fnSystemAddWrong : ChangeSpec := { name := "fnSystemAdd", fn := fun _ => fun
  | [d] => { results := [.lit (.bool false)], args := [d] }
  | _ => none }
def FnSystemAddWrongFalsely : Prop := fnSystemAddRow.holds Try.pinned (OpenSpec.ofChange fnSystemAddWrong)

/-- 'laws.FnExactSystemAdd': WHATEVER THE INPUT: true; the input reads as it did. -/
def fnExactSystemAddSpec : ChangeSpec := { name := "fnExactSystemAdd", fn := fun _ => fun
  | [d1, d2] => { results := [.lit (.bool true)], args := [d1, d2] }
  | _ => none }
def fnExactSystemAddRow : OpenClaim := { program := "ytniemanapimjoaa", sum := "fa4bd3f61221f1984fabbad6a159769604273f2e3f7705fb307a375f4a2af0cf", func := "loop.example/shorthand/laws.FnExactSystemAdd", spec := "fnExactSystemAdd", inPlace := ["internal/bytealg.IndexByteString"], plainKeys := false, apart := false }
def FnExactSystemAddSaid : Prop := fnExactSystemAddRow.holds Try.pinned (OpenSpec.ofChange fnExactSystemAddSpec)

/-- ITS FALSE NEIGHBOUR: 'it returns false'. Refute it at one input. -/
def fnExactSystemAddWrong : ChangeSpec := { name := "fnExactSystemAdd", fn := fun _ => fun
  | [d1, d2] => { results := [.lit (.bool false)], args := [d1, d2] }
  | _ => none }
def FnExactSystemAddWrongFalsely : Prop := fnExactSystemAddRow.holds Try.pinned (OpenSpec.ofChange fnExactSystemAddWrong)

/-- 'laws.FnExactOutlineBare': WHATEVER THE INPUT: true; the input reads as it did. -/
def fnExactOutlineBareSpec : ChangeSpec := { name := "fnExactOutlineBare", fn := fun _ => fun
  | [d1, d2] => { results := [.lit (.bool true)], args := [d1, d2] }
  | _ => none }
def fnExactOutlineBareRow : OpenClaim := { program := "ytniemanapimjoaa", sum := "fa4bd3f61221f1984fabbad6a159769604273f2e3f7705fb307a375f4a2af0cf", func := "loop.example/shorthand/laws.FnExactOutlineBare", spec := "fnExactOutlineBare", inPlace := ["internal/bytealg.IndexByteString"], unfollowed := true, recurses := true, plainKeys := false, apart := false }
def FnExactOutlineBareSaid : Prop := fnExactOutlineBareRow.holds Try.pinned (OpenSpec.ofChange fnExactOutlineBareSpec)

/-- ITS FALSE NEIGHBOUR: 'it returns false'. Refute it at one input. -/
def fnExactOutlineBareWrong : ChangeSpec := { name := "fnExactOutlineBare", fn := fun _ => fun
  | [d1, d2] => { results := [.lit (.bool false)], args := [d1, d2] }
  | _ => none }
def FnExactOutlineBareWrongFalsely : Prop := fnExactOutlineBareRow.holds Try.pinned (OpenSpec.ofChange fnExactOutlineBareWrong)

/-- 'laws.FnSystemStroke': WHATEVER THE INPUT: true; the input reads as it did. -/
def fnSystemStrokeSpec : ChangeSpec := { name := "fnSystemStroke", fn := fun _ => fun
  | [d] => { results := [.lit (.bool true)], args := [d] }
  | _ => none }
def fnSystemStrokeRow : OpenClaim := { program := "ytniemanapimjoaa", sum := "fa4bd3f61221f1984fabbad6a159769604273f2e3f7705fb307a375f4a2af0cf", func := "loop.example/shorthand/laws.FnSystemStroke", spec := "fnSystemStroke", inPlace := ["internal/bytealg.IndexByteString"], unfollowed := true, recurses := true, plainKeys := false, apart := false }
def FnSystemStrokeSaid : Prop := fnSystemStrokeRow.holds Try.pinned (OpenSpec.ofChange fnSystemStrokeSpec)

/-- ITS FALSE NEIGHBOUR: 'it returns false'. Refute it at one input. -/
def fnSystemStrokeWrong : ChangeSpec := { name := "fnSystemStroke", fn := fun _ => fun
  | [d] => { results := [.lit (.bool false)], args := [d] }
  | _ => none }
def FnSystemStrokeWrongFalsely : Prop := fnSystemStrokeRow.holds Try.pinned (OpenSpec.ofChange fnSystemStrokeWrong)

/-- 'laws.FnWordOutline': WHATEVER THE INPUT: true; the input reads as it did. -/
def fnWordOutlineSpec : ChangeSpec := { name := "fnWordOutline", fn := fun _ => fun
  | [d] => { results := [.lit (.bool true)], args := [d] }
  | _ => none }
def fnWordOutlineRow : OpenClaim := { program := "ytniemanapimjoaa", sum := "fa4bd3f61221f1984fabbad6a159769604273f2e3f7705fb307a375f4a2af0cf", func := "loop.example/shorthand/laws.FnWordOutline", spec := "fnWordOutline", inPlace := ["internal/bytealg.IndexByteString"], unfollowed := true, recurses := true, plainKeys := false, apart := false }
def FnWordOutlineSaid : Prop := fnWordOutlineRow.holds Try.pinned (OpenSpec.ofChange fnWordOutlineSpec)

/-- ITS FALSE NEIGHBOUR: 'it returns false'. Refute it at one input. -/
def fnWordOutlineWrong : ChangeSpec := { name := "fnWordOutline", fn := fun _ => fun
  | [d] => { results := [.lit (.bool false)], args := [d] }
  | _ => none }
def FnWordOutlineWrongFalsely : Prop := fnWordOutlineRow.holds Try.pinned (OpenSpec.ofChange fnWordOutlineWrong)

/-- 'laws.FnExactWordOutline': WHATEVER THE INPUT: true; the input reads as it did. -/
def fnExactWordOutlineSpec : ChangeSpec := { name := "fnExactWordOutline", fn := fun _ => fun
  | [d1, d2] => { results := [.lit (.bool true)], args := [d1, d2] }
  | _ => none }
def fnExactWordOutlineRow : OpenClaim := { program := "ytniemanapimjoaa", sum := "fa4bd3f61221f1984fabbad6a159769604273f2e3f7705fb307a375f4a2af0cf", func := "loop.example/shorthand/laws.FnExactWordOutline", spec := "fnExactWordOutline", inPlace := ["internal/bytealg.IndexByteString"], plainKeys := false, apart := false }
def FnExactWordOutlineSaid : Prop := fnExactWordOutlineRow.holds Try.pinned (OpenSpec.ofChange fnExactWordOutlineSpec)

/-- ITS FALSE NEIGHBOUR: 'it returns false'. Refute it at one input. -/
def fnExactWordOutlineWrong : ChangeSpec := { name := "fnExactWordOutline", fn := fun _ => fun
  | [d1, d2] => { results := [.lit (.bool false)], args := [d1, d2] }
  | _ => none }
def FnExactWordOutlineWrongFalsely : Prop := fnExactWordOutlineRow.holds Try.pinned (OpenSpec.ofChange fnExactWordOutlineWrong)

/-- 'laws.FnOutlineBare': WHATEVER THE INPUT: true; the input reads as it did. -/
def fnOutlineBareSpec : ChangeSpec := { name := "fnOutlineBare", fn := fun _ => fun
  | [d] => { results := [.lit (.bool true)], args := [d] }
  | _ => none }
def fnOutlineBareRow : OpenClaim := { program := "ytniemanapimjoaa", sum := "fa4bd3f61221f1984fabbad6a159769604273f2e3f7705fb307a375f4a2af0cf", func := "loop.example/shorthand/laws.FnOutlineBare", spec := "fnOutlineBare", inPlace := ["internal/bytealg.IndexByteString"], unfollowed := true, recurses := true, plainKeys := false, apart := false }
def FnOutlineBareSaid : Prop := fnOutlineBareRow.holds Try.pinned (OpenSpec.ofChange fnOutlineBareSpec)

/-- ITS FALSE NEIGHBOUR: 'it returns false'. Refute it at one input. -/
def fnOutlineBareWrong : ChangeSpec := { name := "fnOutlineBare", fn := fun _ => fun
  | [d] => { results := [.lit (.bool false)], args := [d] }
  | _ => none }
def FnOutlineBareWrongFalsely : Prop := fnOutlineBareRow.holds Try.pinned (OpenSpec.ofChange fnOutlineBareWrong)

/-- 'laws.FnWritten': WHATEVER THE INPUT: true; the input reads as it did. -/
def fnWrittenSpec : ChangeSpec := { name := "fnWritten", fn := fun _ => fun
  | [d1, d2] => { results := [.lit (.bool true)], args := [d1, d2] }
  | _ => none }
def fnWrittenRow : OpenClaim := { program := "ytniemanapimjoaa", sum := "fa4bd3f61221f1984fabbad6a159769604273f2e3f7705fb307a375f4a2af0cf", func := "loop.example/shorthand/laws.FnWritten", spec := "fnWritten", inPlace := ["internal/bytealg.IndexByteString"], plainKeys := false, apart := false }
def FnWrittenSaid : Prop := fnWrittenRow.holds Try.pinned (OpenSpec.ofChange fnWrittenSpec)

/-- ITS FALSE NEIGHBOUR: 'it returns false'. Refute it at one input. -/
def fnWrittenWrong : ChangeSpec := { name := "fnWritten", fn := fun _ => fun
  | [d1, d2] => { results := [.lit (.bool false)], args := [d1, d2] }
  | _ => none }
def FnWrittenWrongFalsely : Prop := fnWrittenRow.holds Try.pinned (OpenSpec.ofChange fnWrittenWrong)

/- THE SECOND FORM. 'bulk': how many values and letters a reading holds, each counted each time it is reached (what is shared counts as often as it is met; a slice's spare places count too). A statement '..UptoSaid' is the law's where the arguments, and the package variables that the reading takes, are together of bulk at most 1048576: NARROWER than '..Said'. Prove '..Said' where nothing that the law and all that it calls make is longer than what came in: it says more and counts as full. Else prove '..UptoSaid'. A law counts once. -/
mutual
def uptoBulk {H : Type} : DataW H → Nat
  | .lit (.string bytes) => bytes.length + 1
  | .lit _ => 1
  | .nil => 1
  | .ptr d => uptoBulk d + 1
  | .slice elems spare => uptoBulkAll elems + uptoBulkAll spare + 1
  | .agg parts => uptoBulkAll parts + 1
  | .iface _ d => uptoBulk d + 1
  | .map entries => uptoBulkEntries entries + 1
  | .held _ => 1
def uptoBulkAll {H : Type} : List (DataW H) → Nat
  | [] => 0
  | d :: r => uptoBulk d + uptoBulkAll r
def uptoBulkEntries {H : Type} : List (Lit × DataW H) → Nat
  | [] => 0
  | x :: r => uptoBulkEntry x + uptoBulkEntries r
def uptoBulkEntry {H : Type} : Lit × DataW H → Nat
  | (.string bytes, d) => bytes.length + uptoBulk d + 1
  | (_, d) => uptoBulk d + 1
 end
def uptoSmall : (H : Type) → List (DataW H) → Bool := fun _ ds => decide (uptoBulkAll ds ≤ 1048576)
def OpenSpec.upto (s : _root_.Go.ChangeSpec) : _root_.Go.OpenSpec := { _root_.Go.OpenSpec.ofChange s with cond := some uptoSmall }

/-- 'laws.FnExactDictionaryRead', WHERE WHAT IT READS IS OF BULK AT MOST 1048576: true; the input reads as it did. -/
def fnExactDictionaryReadUptoRow : OpenClaim := { program := "ytniemanapimjoaa", sum := "fa4bd3f61221f1984fabbad6a159769604273f2e3f7705fb307a375f4a2af0cf", func := "loop.example/shorthand/laws.FnExactDictionaryRead", spec := "fnExactDictionaryRead", inPlace := ["internal/bytealg.IndexByteString"], recurses := true, plainKeys := false, apart := false, narrowed := true }
def FnExactDictionaryReadUptoSaid : Prop := fnExactDictionaryReadUptoRow.holds Try.pinned (OpenSpec.upto fnExactDictionaryReadSpec)

/-- 'laws.FnExactLineOf', WHERE WHAT IT READS IS OF BULK AT MOST 1048576: true; the input reads as it did. -/
def fnExactLineOfUptoRow : OpenClaim := { program := "ytniemanapimjoaa", sum := "fa4bd3f61221f1984fabbad6a159769604273f2e3f7705fb307a375f4a2af0cf", func := "loop.example/shorthand/laws.FnExactLineOf", spec := "fnExactLineOf", inPlace := ["internal/bytealg.IndexByteString"], plainKeys := false, apart := false, narrowed := true }
def FnExactLineOfUptoSaid : Prop := fnExactLineOfUptoRow.holds Try.pinned (OpenSpec.upto fnExactLineOfSpec)

/-- 'laws.FnExactSystemValid', WHERE WHAT IT READS IS OF BULK AT MOST 1048576: true; the input reads as it did. -/
def fnExactSystemValidUptoRow : OpenClaim := { program := "ytniemanapimjoaa", sum := "fa4bd3f61221f1984fabbad6a159769604273f2e3f7705fb307a375f4a2af0cf", func := "loop.example/shorthand/laws.FnExactSystemValid", spec := "fnExactSystemValid", inPlace := ["internal/bytealg.IndexByteString"], plainKeys := false, apart := false, narrowed := true }
def FnExactSystemValidUptoSaid : Prop := fnExactSystemValidUptoRow.holds Try.pinned (OpenSpec.upto fnExactSystemValidSpec)

/-- 'laws.FnExactSystemStroke', WHERE WHAT IT READS IS OF BULK AT MOST 1048576: true; the input reads as it did. -/
def fnExactSystemStrokeUptoRow : OpenClaim := { program := "ytniemanapimjoaa", sum := "fa4bd3f61221f1984fabbad6a159769604273f2e3f7705fb307a375f4a2af0cf", func := "loop.example/shorthand/laws.FnExactSystemStroke", spec := "fnExactSystemStroke", inPlace := ["internal/bytealg.IndexByteString"], plainKeys := false, apart := false, narrowed := true }
def FnExactSystemStrokeUptoSaid : Prop := fnExactSystemStrokeUptoRow.holds Try.pinned (OpenSpec.upto fnExactSystemStrokeSpec)

/-- 'laws.FnSystemAdd', WHERE WHAT IT READS IS OF BULK AT MOST 1048576: true; the input reads as it did. -/
def fnSystemAddUptoRow : OpenClaim := { program := "ytniemanapimjoaa", sum := "fa4bd3f61221f1984fabbad6a159769604273f2e3f7705fb307a375f4a2af0cf", func := "loop.example/shorthand/laws.FnSystemAdd", spec := "fnSystemAdd", inPlace := ["internal/bytealg.IndexByteString"], plainKeys := false, apart := false, narrowed := true }
def FnSystemAddUptoSaid : Prop := fnSystemAddUptoRow.holds Try.pinned (OpenSpec.upto fnSystemAddSpec)

/-- 'laws.FnExactSystemAdd', WHERE WHAT IT READS IS OF BULK AT MOST 1048576: true; the input reads as it did. -/
def fnExactSystemAddUptoRow : OpenClaim := { program := "ytniemanapimjoaa", sum := "fa4bd3f61221f1984fabbad6a159769604273f2e3f7705fb307a375f4a2af0cf", func := "loop.example/shorthand/laws.FnExactSystemAdd", spec := "fnExactSystemAdd", inPlace := ["internal/bytealg.IndexByteString"], plainKeys := false, apart := false, narrowed := true }
def FnExactSystemAddUptoSaid : Prop := fnExactSystemAddUptoRow.holds Try.pinned (OpenSpec.upto fnExactSystemAddSpec)

/-- 'laws.FnExactOutlineBare', WHERE WHAT IT READS IS OF BULK AT MOST 1048576: true; the input reads as it did. -/
def fnExactOutlineBareUptoRow : OpenClaim := { program := "ytniemanapimjoaa", sum := "fa4bd3f61221f1984fabbad6a159769604273f2e3f7705fb307a375f4a2af0cf", func := "loop.example/shorthand/laws.FnExactOutlineBare", spec := "fnExactOutlineBare", inPlace := ["internal/bytealg.IndexByteString"], unfollowed := true, recurses := true, plainKeys := false, apart := false, narrowed := true }
def FnExactOutlineBareUptoSaid : Prop := fnExactOutlineBareUptoRow.holds Try.pinned (OpenSpec.upto fnExactOutlineBareSpec)

/-- 'laws.FnSystemStroke', WHERE WHAT IT READS IS OF BULK AT MOST 1048576: true; the input reads as it did. -/
def fnSystemStrokeUptoRow : OpenClaim := { program := "ytniemanapimjoaa", sum := "fa4bd3f61221f1984fabbad6a159769604273f2e3f7705fb307a375f4a2af0cf", func := "loop.example/shorthand/laws.FnSystemStroke", spec := "fnSystemStroke", inPlace := ["internal/bytealg.IndexByteString"], unfollowed := true, recurses := true, plainKeys := false, apart := false, narrowed := true }
def FnSystemStrokeUptoSaid : Prop := fnSystemStrokeUptoRow.holds Try.pinned (OpenSpec.upto fnSystemStrokeSpec)

/-- 'laws.FnWordOutline', WHERE WHAT IT READS IS OF BULK AT MOST 1048576: true; the input reads as it did. -/
def fnWordOutlineUptoRow : OpenClaim := { program := "ytniemanapimjoaa", sum := "fa4bd3f61221f1984fabbad6a159769604273f2e3f7705fb307a375f4a2af0cf", func := "loop.example/shorthand/laws.FnWordOutline", spec := "fnWordOutline", inPlace := ["internal/bytealg.IndexByteString"], unfollowed := true, recurses := true, plainKeys := false, apart := false, narrowed := true }
def FnWordOutlineUptoSaid : Prop := fnWordOutlineUptoRow.holds Try.pinned (OpenSpec.upto fnWordOutlineSpec)

/-- 'laws.FnExactWordOutline', WHERE WHAT IT READS IS OF BULK AT MOST 1048576: true; the input reads as it did. -/
def fnExactWordOutlineUptoRow : OpenClaim := { program := "ytniemanapimjoaa", sum := "fa4bd3f61221f1984fabbad6a159769604273f2e3f7705fb307a375f4a2af0cf", func := "loop.example/shorthand/laws.FnExactWordOutline", spec := "fnExactWordOutline", inPlace := ["internal/bytealg.IndexByteString"], plainKeys := false, apart := false, narrowed := true }
def FnExactWordOutlineUptoSaid : Prop := fnExactWordOutlineUptoRow.holds Try.pinned (OpenSpec.upto fnExactWordOutlineSpec)

/-- 'laws.FnOutlineBare', WHERE WHAT IT READS IS OF BULK AT MOST 1048576: true; the input reads as it did. -/
def fnOutlineBareUptoRow : OpenClaim := { program := "ytniemanapimjoaa", sum := "fa4bd3f61221f1984fabbad6a159769604273f2e3f7705fb307a375f4a2af0cf", func := "loop.example/shorthand/laws.FnOutlineBare", spec := "fnOutlineBare", inPlace := ["internal/bytealg.IndexByteString"], unfollowed := true, recurses := true, plainKeys := false, apart := false, narrowed := true }
def FnOutlineBareUptoSaid : Prop := fnOutlineBareUptoRow.holds Try.pinned (OpenSpec.upto fnOutlineBareSpec)

/-- 'laws.FnWritten', WHERE WHAT IT READS IS OF BULK AT MOST 1048576: true; the input reads as it did. -/
def fnWrittenUptoRow : OpenClaim := { program := "ytniemanapimjoaa", sum := "fa4bd3f61221f1984fabbad6a159769604273f2e3f7705fb307a375f4a2af0cf", func := "loop.example/shorthand/laws.FnWritten", spec := "fnWritten", inPlace := ["internal/bytealg.IndexByteString"], plainKeys := false, apart := false, narrowed := true }
def FnWrittenUptoSaid : Prop := fnWrittenUptoRow.holds Try.pinned (OpenSpec.upto fnWrittenSpec)

end Rows
end Go.Proofs.Ytniemanapimjoaa
