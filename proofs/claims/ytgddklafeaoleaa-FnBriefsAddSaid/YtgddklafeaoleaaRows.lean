/-
  No cell of these rows narrows 'for every input' (looked for: loops, veiled, ifaces, maps, wideKeys, modest, calm, conditions, laid).
  DERIVED. THE GIVEN ROWS OF THIS SEAT. 11 by the template 'for every input the law returns true; each argument reads behind the call as it read before'; 0 by the template 'total and deterministic' (their statements: YtgddklafeaoleaaTotals.lean).
  GIVEN WITH THE SEED: the statements are not yours to turn. If you find one false, say at which input.
  Laid BY PROGRAM, IN A SANDBOX (cutbox-rows.mjs): the forced cells as the released guide's own fill.sh prints them over the translation 4f11b1210a4b853a… (all of the seat's roots in one cut). By AI agents, Wed Nov 11 2026. No macro, syntax, notation, axiom, sorry.
-/
import Derived.Test.YtgddklafeaoleaaChecked
import GoSem.Claim
import GoSem.ClaimJoined
import GoSem.ClaimMapViews
import Derived.JoinedTies
import Derived.KernelRfl
namespace Go.Proofs.Ytgddklafeaoleaa
/- THE CELL 'sum', in the pinned program and in every row, IS THE sha256 OF THE DUMP (.gsa) THAT YtgddklafeaoleaaProg.lean LOADS. Nothing in Lean hashes anything: it is a label: what it is worth is what the hold of that sum in a sandbox is worth. -/
noncomputable def Try.pinned : Pinned := { name := "ytgddklafeaoleaa", sum := "4f11b1210a4b853af140677556baf0885d614a5be19e14d7ce5a61bff7c160bd", checked := Try.checked }
namespace Rows
def none {H : Type} : Left H := { results := [], args := [] }

/-- 'laws.FnExactBriefsValid': WHATEVER THE INPUT: true; the input reads as it did. -/
def fnExactBriefsValidSpec : ChangeSpec := { name := "fnExactBriefsValid", fn := fun _ => fun
  | [d] => { results := [.lit (.bool true)], args := [d] }
  | _ => none }
def fnExactBriefsValidRow : OpenClaim := { program := "ytgddklafeaoleaa", sum := "4f11b1210a4b853af140677556baf0885d614a5be19e14d7ce5a61bff7c160bd", func := "loop.example/shorthand/laws.FnExactBriefsValid", spec := "fnExactBriefsValid", unfollowed := true, recurses := true, apart := false }
def FnExactBriefsValidSaid : Prop := fnExactBriefsValidRow.holds Try.pinned (OpenSpec.ofChange fnExactBriefsValidSpec)

/-- ITS FALSE NEIGHBOUR: 'it returns false'. Refute it at one input. -/
def fnExactBriefsValidWrong : ChangeSpec := { name := "fnExactBriefsValid", fn := fun _ => fun
  | [d] => { results := [.lit (.bool false)], args := [d] }
  | _ => none }
def FnExactBriefsValidWrongFalsely : Prop := fnExactBriefsValidRow.holds Try.pinned (OpenSpec.ofChange fnExactBriefsValidWrong)

/-- 'laws.FnExactBriefsClear': WHATEVER THE INPUT: true; the input reads as it did. -/
def fnExactBriefsClearSpec : ChangeSpec := { name := "fnExactBriefsClear", fn := fun _ => fun
  | [d] => { results := [.lit (.bool true)], args := [d] }
  | _ => none }
def fnExactBriefsClearRow : OpenClaim := { program := "ytgddklafeaoleaa", sum := "4f11b1210a4b853af140677556baf0885d614a5be19e14d7ce5a61bff7c160bd", func := "loop.example/shorthand/laws.FnExactBriefsClear", spec := "fnExactBriefsClear", unfollowed := true, recurses := true, apart := false }
def FnExactBriefsClearSaid : Prop := fnExactBriefsClearRow.holds Try.pinned (OpenSpec.ofChange fnExactBriefsClearSpec)

/-- ITS FALSE NEIGHBOUR: 'it returns false'. Refute it at one input. -/
def fnExactBriefsClearWrong : ChangeSpec := { name := "fnExactBriefsClear", fn := fun _ => fun
  | [d] => { results := [.lit (.bool false)], args := [d] }
  | _ => none }
def FnExactBriefsClearWrongFalsely : Prop := fnExactBriefsClearRow.holds Try.pinned (OpenSpec.ofChange fnExactBriefsClearWrong)

/-- 'laws.FnCopyMany': WHATEVER THE INPUT: true; the input reads as it did. -/
def fnCopyManySpec : ChangeSpec := { name := "fnCopyMany", fn := fun _ => fun
  | [d] => { results := [.lit (.bool true)], args := [d] }
  | _ => none }
def fnCopyManyRow : OpenClaim := { program := "ytgddklafeaoleaa", sum := "4f11b1210a4b853af140677556baf0885d614a5be19e14d7ce5a61bff7c160bd", func := "loop.example/shorthand/laws.FnCopyMany", spec := "fnCopyMany", unfollowed := true, recurses := true, apart := false }
def FnCopyManySaid : Prop := fnCopyManyRow.holds Try.pinned (OpenSpec.ofChange fnCopyManySpec)

/-- ITS FALSE NEIGHBOUR: 'it returns false'. Refute it at one input. -/
def fnCopyManyWrong : ChangeSpec := { name := "fnCopyMany", fn := fun _ => fun
  | [d] => { results := [.lit (.bool false)], args := [d] }
  | _ => none }
def FnCopyManyWrongFalsely : Prop := fnCopyManyRow.holds Try.pinned (OpenSpec.ofChange fnCopyManyWrong)

/-- 'laws.FnExactCopyMany': WHATEVER THE INPUT: true; the input reads as it did. -/
def fnExactCopyManySpec : ChangeSpec := { name := "fnExactCopyMany", fn := fun _ => fun
  | [d1, d2] => { results := [.lit (.bool true)], args := [d1, d2] }
  | _ => none }
def fnExactCopyManyRow : OpenClaim := { program := "ytgddklafeaoleaa", sum := "4f11b1210a4b853af140677556baf0885d614a5be19e14d7ce5a61bff7c160bd", func := "loop.example/shorthand/laws.FnExactCopyMany", spec := "fnExactCopyMany", unfollowed := true, recurses := true, apart := false }
def FnExactCopyManySaid : Prop := fnExactCopyManyRow.holds Try.pinned (OpenSpec.ofChange fnExactCopyManySpec)

/-- ITS FALSE NEIGHBOUR: 'it returns false'. Refute it at one input. -/
def fnExactCopyManyWrong : ChangeSpec := { name := "fnExactCopyMany", fn := fun _ => fun
  | [d1, d2] => { results := [.lit (.bool false)], args := [d1, d2] }
  | _ => none }
def FnExactCopyManyWrongFalsely : Prop := fnExactCopyManyRow.holds Try.pinned (OpenSpec.ofChange fnExactCopyManyWrong)

/-- 'laws.FnCopyLeast': WHATEVER THE INPUT: true; the input reads as it did. -/
def fnCopyLeastSpec : ChangeSpec := { name := "fnCopyLeast", fn := fun _ => fun
  | [d1, d2] => { results := [.lit (.bool true)], args := [d1, d2] }
  | _ => none }
def fnCopyLeastRow : OpenClaim := { program := "ytgddklafeaoleaa", sum := "4f11b1210a4b853af140677556baf0885d614a5be19e14d7ce5a61bff7c160bd", func := "loop.example/shorthand/laws.FnCopyLeast", spec := "fnCopyLeast", unfollowed := true, recurses := true, apart := false }
def FnCopyLeastSaid : Prop := fnCopyLeastRow.holds Try.pinned (OpenSpec.ofChange fnCopyLeastSpec)

/-- ITS FALSE NEIGHBOUR: 'it returns false'. Refute it at one input. -/
def fnCopyLeastWrong : ChangeSpec := { name := "fnCopyLeast", fn := fun _ => fun
  | [d1, d2] => { results := [.lit (.bool false)], args := [d1, d2] }
  | _ => none }
def FnCopyLeastWrongFalsely : Prop := fnCopyLeastRow.holds Try.pinned (OpenSpec.ofChange fnCopyLeastWrong)

/-- 'laws.FnExactCopyCost': WHATEVER THE INPUT: true; the input reads as it did. -/
def fnExactCopyCostSpec : ChangeSpec := { name := "fnExactCopyCost", fn := fun _ => fun
  | [d1, d2] => { results := [.lit (.bool true)], args := [d1, d2] }
  | _ => none }
def fnExactCopyCostRow : OpenClaim := { program := "ytgddklafeaoleaa", sum := "4f11b1210a4b853af140677556baf0885d614a5be19e14d7ce5a61bff7c160bd", func := "loop.example/shorthand/laws.FnExactCopyCost", spec := "fnExactCopyCost", unfollowed := true, recurses := true, apart := false }
def FnExactCopyCostSaid : Prop := fnExactCopyCostRow.holds Try.pinned (OpenSpec.ofChange fnExactCopyCostSpec)

/-- ITS FALSE NEIGHBOUR: 'it returns false'. Refute it at one input. -/
def fnExactCopyCostWrong : ChangeSpec := { name := "fnExactCopyCost", fn := fun _ => fun
  | [d1, d2] => { results := [.lit (.bool false)], args := [d1, d2] }
  | _ => none }
def FnExactCopyCostWrongFalsely : Prop := fnExactCopyCostRow.holds Try.pinned (OpenSpec.ofChange fnExactCopyCostWrong)

/-- 'laws.FnBriefsClear': WHATEVER THE INPUT: true; the input reads as it did. -/
def fnBriefsClearSpec : ChangeSpec := { name := "fnBriefsClear", fn := fun _ => fun
  | [d1, d2] => { results := [.lit (.bool true)], args := [d1, d2] }
  | _ => none }
def fnBriefsClearRow : OpenClaim := { program := "ytgddklafeaoleaa", sum := "4f11b1210a4b853af140677556baf0885d614a5be19e14d7ce5a61bff7c160bd", func := "loop.example/shorthand/laws.FnBriefsClear", spec := "fnBriefsClear", unfollowed := true, recurses := true, apart := false }
def FnBriefsClearSaid : Prop := fnBriefsClearRow.holds Try.pinned (OpenSpec.ofChange fnBriefsClearSpec)

/-- ITS FALSE NEIGHBOUR: 'it returns false'. Refute it at one input. -/
def fnBriefsClearWrong : ChangeSpec := { name := "fnBriefsClear", fn := fun _ => fun
  | [d1, d2] => { results := [.lit (.bool false)], args := [d1, d2] }
  | _ => none }
def FnBriefsClearWrongFalsely : Prop := fnBriefsClearRow.holds Try.pinned (OpenSpec.ofChange fnBriefsClearWrong)

/-- 'laws.FnExactCopyShort': WHATEVER THE INPUT: true; the input reads as it did. -/
def fnExactCopyShortSpec : ChangeSpec := { name := "fnExactCopyShort", fn := fun _ => fun
  | [d1, d2] => { results := [.lit (.bool true)], args := [d1, d2] }
  | _ => none }
def fnExactCopyShortRow : OpenClaim := { program := "ytgddklafeaoleaa", sum := "4f11b1210a4b853af140677556baf0885d614a5be19e14d7ce5a61bff7c160bd", func := "loop.example/shorthand/laws.FnExactCopyShort", spec := "fnExactCopyShort", unfollowed := true, recurses := true, apart := false }
def FnExactCopyShortSaid : Prop := fnExactCopyShortRow.holds Try.pinned (OpenSpec.ofChange fnExactCopyShortSpec)

/-- ITS FALSE NEIGHBOUR: 'it returns false'. Refute it at one input. -/
def fnExactCopyShortWrong : ChangeSpec := { name := "fnExactCopyShort", fn := fun _ => fun
  | [d1, d2] => { results := [.lit (.bool false)], args := [d1, d2] }
  | _ => none }
def FnExactCopyShortWrongFalsely : Prop := fnExactCopyShortRow.holds Try.pinned (OpenSpec.ofChange fnExactCopyShortWrong)

/-- 'laws.FnBriefsAdd': WHATEVER THE INPUT: true; the input reads as it did. -/
def fnBriefsAddSpec : ChangeSpec := { name := "fnBriefsAdd", fn := fun _ => fun
  | [d] => { results := [.lit (.bool true)], args := [d] }
  | _ => none }
def fnBriefsAddRow : OpenClaim := { program := "ytgddklafeaoleaa", sum := "4f11b1210a4b853af140677556baf0885d614a5be19e14d7ce5a61bff7c160bd", func := "loop.example/shorthand/laws.FnBriefsAdd", spec := "fnBriefsAdd", unfollowed := true, recurses := true, apart := false }
def FnBriefsAddSaid : Prop := fnBriefsAddRow.holds Try.pinned (OpenSpec.ofChange fnBriefsAddSpec)

/-- ITS FALSE NEIGHBOUR: 'it returns false'. Refute it at one input. -/
def fnBriefsAddWrong : ChangeSpec := { name := "fnBriefsAdd", fn := fun _ => fun
  | [d] => { results := [.lit (.bool false)], args := [d] }
  | _ => none }
def FnBriefsAddWrongFalsely : Prop := fnBriefsAddRow.holds Try.pinned (OpenSpec.ofChange fnBriefsAddWrong)

/-- 'laws.FnExactCopyLeast': WHATEVER THE INPUT: true; the input reads as it did. -/
def fnExactCopyLeastSpec : ChangeSpec := { name := "fnExactCopyLeast", fn := fun _ => fun
  | [d1, d2] => { results := [.lit (.bool true)], args := [d1, d2] }
  | _ => none }
def fnExactCopyLeastRow : OpenClaim := { program := "ytgddklafeaoleaa", sum := "4f11b1210a4b853af140677556baf0885d614a5be19e14d7ce5a61bff7c160bd", func := "loop.example/shorthand/laws.FnExactCopyLeast", spec := "fnExactCopyLeast", unfollowed := true, recurses := true, apart := false }
def FnExactCopyLeastSaid : Prop := fnExactCopyLeastRow.holds Try.pinned (OpenSpec.ofChange fnExactCopyLeastSpec)

/-- ITS FALSE NEIGHBOUR: 'it returns false'. Refute it at one input. -/
def fnExactCopyLeastWrong : ChangeSpec := { name := "fnExactCopyLeast", fn := fun _ => fun
  | [d1, d2] => { results := [.lit (.bool false)], args := [d1, d2] }
  | _ => none }
def FnExactCopyLeastWrongFalsely : Prop := fnExactCopyLeastRow.holds Try.pinned (OpenSpec.ofChange fnExactCopyLeastWrong)

/-- 'laws.FnExactCopyRead': WHATEVER THE INPUT: true; the input reads as it did. -/
def fnExactCopyReadSpec : ChangeSpec := { name := "fnExactCopyRead", fn := fun _ => fun
  | [d1, d2] => { results := [.lit (.bool true)], args := [d1, d2] }
  | _ => none }
def fnExactCopyReadRow : OpenClaim := { program := "ytgddklafeaoleaa", sum := "4f11b1210a4b853af140677556baf0885d614a5be19e14d7ce5a61bff7c160bd", func := "loop.example/shorthand/laws.FnExactCopyRead", spec := "fnExactCopyRead", unfollowed := true, recurses := true, apart := false }
def FnExactCopyReadSaid : Prop := fnExactCopyReadRow.holds Try.pinned (OpenSpec.ofChange fnExactCopyReadSpec)

/-- ITS FALSE NEIGHBOUR: 'it returns false'. Refute it at one input. -/
def fnExactCopyReadWrong : ChangeSpec := { name := "fnExactCopyRead", fn := fun _ => fun
  | [d1, d2] => { results := [.lit (.bool false)], args := [d1, d2] }
  | _ => none }
def FnExactCopyReadWrongFalsely : Prop := fnExactCopyReadRow.holds Try.pinned (OpenSpec.ofChange fnExactCopyReadWrong)

/- THE SECOND FORM. 'bulk': how many values and letters a reading holds, each counted each time it is reached (what is shared counts as often as it is met; a slice's spare places count too). A statement '..UptoSaid' is the law's where the arguments, and the package variables that the reading takes, are together of bulk at most 1048576: NARROWER than '..Said'. Prove '..Said' where nothing that the law and all that it calls make is longer than what came in: it says more and counts as full. Else prove '..UptoSaid'. A law counts once. -/
mutual
def uptoBulk {H : Type} : DataW H → Nat
  | .lit (.string bytes) => bytes.length + 1
  | .lit _ => 1
  | .nil => 1
  | .ptr d => uptoBulk d + 1
  | .slice elems spare => uptoBulkAll elems + uptoBulkAll spare + 1
  | .agg parts => uptoBulkAll parts + 1
  | .iface _ d => uptoBulk d + 1
  | .map entries => uptoBulkEntries entries + 1
  | .held _ => 1
def uptoBulkAll {H : Type} : List (DataW H) → Nat
  | [] => 0
  | d :: r => uptoBulk d + uptoBulkAll r
def uptoBulkEntries {H : Type} : List (Lit × DataW H) → Nat
  | [] => 0
  | x :: r => uptoBulkEntry x + uptoBulkEntries r
def uptoBulkEntry {H : Type} : Lit × DataW H → Nat
  | (.string bytes, d) => bytes.length + uptoBulk d + 1
  | (_, d) => uptoBulk d + 1
 end
def uptoSmall : (H : Type) → List (DataW H) → Bool := fun _ ds => decide (uptoBulkAll ds ≤ 1048576)
def OpenSpec.upto (s : _root_.Go.ChangeSpec) : _root_.Go.OpenSpec := { _root_.Go.OpenSpec.ofChange s with cond := some uptoSmall }

/-- 'laws.FnExactBriefsValid', WHERE WHAT IT READS IS OF BULK AT MOST 1048576: true; the input reads as it did. -/
def fnExactBriefsValidUptoRow : OpenClaim := { program := "ytgddklafeaoleaa", sum := "4f11b1210a4b853af140677556baf0885d614a5be19e14d7ce5a61bff7c160bd", func := "loop.example/shorthand/laws.FnExactBriefsValid", spec := "fnExactBriefsValid", unfollowed := true, recurses := true, apart := false, narrowed := true }
def FnExactBriefsValidUptoSaid : Prop := fnExactBriefsValidUptoRow.holds Try.pinned (OpenSpec.upto fnExactBriefsValidSpec)

/-- 'laws.FnExactBriefsClear', WHERE WHAT IT READS IS OF BULK AT MOST 1048576: true; the input reads as it did. -/
def fnExactBriefsClearUptoRow : OpenClaim := { program := "ytgddklafeaoleaa", sum := "4f11b1210a4b853af140677556baf0885d614a5be19e14d7ce5a61bff7c160bd", func := "loop.example/shorthand/laws.FnExactBriefsClear", spec := "fnExactBriefsClear", unfollowed := true, recurses := true, apart := false, narrowed := true }
def FnExactBriefsClearUptoSaid : Prop := fnExactBriefsClearUptoRow.holds Try.pinned (OpenSpec.upto fnExactBriefsClearSpec)

/-- 'laws.FnCopyMany', WHERE WHAT IT READS IS OF BULK AT MOST 1048576: true; the input reads as it did. -/
def fnCopyManyUptoRow : OpenClaim := { program := "ytgddklafeaoleaa", sum := "4f11b1210a4b853af140677556baf0885d614a5be19e14d7ce5a61bff7c160bd", func := "loop.example/shorthand/laws.FnCopyMany", spec := "fnCopyMany", unfollowed := true, recurses := true, apart := false, narrowed := true }
def FnCopyManyUptoSaid : Prop := fnCopyManyUptoRow.holds Try.pinned (OpenSpec.upto fnCopyManySpec)

/-- 'laws.FnExactCopyMany', WHERE WHAT IT READS IS OF BULK AT MOST 1048576: true; the input reads as it did. -/
def fnExactCopyManyUptoRow : OpenClaim := { program := "ytgddklafeaoleaa", sum := "4f11b1210a4b853af140677556baf0885d614a5be19e14d7ce5a61bff7c160bd", func := "loop.example/shorthand/laws.FnExactCopyMany", spec := "fnExactCopyMany", unfollowed := true, recurses := true, apart := false, narrowed := true }
def FnExactCopyManyUptoSaid : Prop := fnExactCopyManyUptoRow.holds Try.pinned (OpenSpec.upto fnExactCopyManySpec)

/-- 'laws.FnCopyLeast', WHERE WHAT IT READS IS OF BULK AT MOST 1048576: true; the input reads as it did. -/
def fnCopyLeastUptoRow : OpenClaim := { program := "ytgddklafeaoleaa", sum := "4f11b1210a4b853af140677556baf0885d614a5be19e14d7ce5a61bff7c160bd", func := "loop.example/shorthand/laws.FnCopyLeast", spec := "fnCopyLeast", unfollowed := true, recurses := true, apart := false, narrowed := true }
def FnCopyLeastUptoSaid : Prop := fnCopyLeastUptoRow.holds Try.pinned (OpenSpec.upto fnCopyLeastSpec)

/-- 'laws.FnExactCopyCost', WHERE WHAT IT READS IS OF BULK AT MOST 1048576: true; the input reads as it did. -/
def fnExactCopyCostUptoRow : OpenClaim := { program := "ytgddklafeaoleaa", sum := "4f11b1210a4b853af140677556baf0885d614a5be19e14d7ce5a61bff7c160bd", func := "loop.example/shorthand/laws.FnExactCopyCost", spec := "fnExactCopyCost", unfollowed := true, recurses := true, apart := false, narrowed := true }
def FnExactCopyCostUptoSaid : Prop := fnExactCopyCostUptoRow.holds Try.pinned (OpenSpec.upto fnExactCopyCostSpec)

/-- 'laws.FnBriefsClear', WHERE WHAT IT READS IS OF BULK AT MOST 1048576: true; the input reads as it did. -/
def fnBriefsClearUptoRow : OpenClaim := { program := "ytgddklafeaoleaa", sum := "4f11b1210a4b853af140677556baf0885d614a5be19e14d7ce5a61bff7c160bd", func := "loop.example/shorthand/laws.FnBriefsClear", spec := "fnBriefsClear", unfollowed := true, recurses := true, apart := false, narrowed := true }
def FnBriefsClearUptoSaid : Prop := fnBriefsClearUptoRow.holds Try.pinned (OpenSpec.upto fnBriefsClearSpec)

/-- 'laws.FnExactCopyShort', WHERE WHAT IT READS IS OF BULK AT MOST 1048576: true; the input reads as it did. -/
def fnExactCopyShortUptoRow : OpenClaim := { program := "ytgddklafeaoleaa", sum := "4f11b1210a4b853af140677556baf0885d614a5be19e14d7ce5a61bff7c160bd", func := "loop.example/shorthand/laws.FnExactCopyShort", spec := "fnExactCopyShort", unfollowed := true, recurses := true, apart := false, narrowed := true }
def FnExactCopyShortUptoSaid : Prop := fnExactCopyShortUptoRow.holds Try.pinned (OpenSpec.upto fnExactCopyShortSpec)

/-- 'laws.FnBriefsAdd', WHERE WHAT IT READS IS OF BULK AT MOST 1048576: true; the input reads as it did. -/
def fnBriefsAddUptoRow : OpenClaim := { program := "ytgddklafeaoleaa", sum := "4f11b1210a4b853af140677556baf0885d614a5be19e14d7ce5a61bff7c160bd", func := "loop.example/shorthand/laws.FnBriefsAdd", spec := "fnBriefsAdd", unfollowed := true, recurses := true, apart := false, narrowed := true }
def FnBriefsAddUptoSaid : Prop := fnBriefsAddUptoRow.holds Try.pinned (OpenSpec.upto fnBriefsAddSpec)

/-- 'laws.FnExactCopyLeast', WHERE WHAT IT READS IS OF BULK AT MOST 1048576: true; the input reads as it did. -/
def fnExactCopyLeastUptoRow : OpenClaim := { program := "ytgddklafeaoleaa", sum := "4f11b1210a4b853af140677556baf0885d614a5be19e14d7ce5a61bff7c160bd", func := "loop.example/shorthand/laws.FnExactCopyLeast", spec := "fnExactCopyLeast", unfollowed := true, recurses := true, apart := false, narrowed := true }
def FnExactCopyLeastUptoSaid : Prop := fnExactCopyLeastUptoRow.holds Try.pinned (OpenSpec.upto fnExactCopyLeastSpec)

/-- 'laws.FnExactCopyRead', WHERE WHAT IT READS IS OF BULK AT MOST 1048576: true; the input reads as it did. -/
def fnExactCopyReadUptoRow : OpenClaim := { program := "ytgddklafeaoleaa", sum := "4f11b1210a4b853af140677556baf0885d614a5be19e14d7ce5a61bff7c160bd", func := "loop.example/shorthand/laws.FnExactCopyRead", spec := "fnExactCopyRead", unfollowed := true, recurses := true, apart := false, narrowed := true }
def FnExactCopyReadUptoSaid : Prop := fnExactCopyReadUptoRow.holds Try.pinned (OpenSpec.upto fnExactCopyReadSpec)

end Rows
end Go.Proofs.Ytgddklafeaoleaa
