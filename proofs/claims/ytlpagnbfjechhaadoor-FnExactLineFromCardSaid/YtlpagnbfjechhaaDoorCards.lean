/-
  DERIVED. GIVEN WITH THE SEED: THE CARDS: each row of YtlpagnbfjechhaaDoorRows.lean that lists a variable, with what it lists TIED to the program's text (the seventh form; the later family's looks); each row that meets fmt, with fmt's text TOLD by the authors' own Lean function (tested against real Go, not proved from fmt's source: count such statements apart). THE CARD IS WHAT COUNTS. Prove the row's statement (the work); the ties are given (YtlpagnbfjechhaaDoorTie.lean); close each card by the builder's one call (the guide's Derived/Test/ToyasCard.lean, 'card_holds'). Laid BY PROGRAM, IN A SANDBOX (cutbox-door.mjs). By AI agents, Wed Nov 11 2026. No macro, syntax, notation, axiom, sorry.
-/
import Derived.Test.YtlpagnbfjechhaaDoorRows
import GoSem.ClaimSeven
namespace Go.Proofs.YtlpagnbfjechhaaDoor
namespace Rows

/-- THE TIED CARD OF 'laws.FnExactLineFrom'. -/
def fnExactLineFromCard : Claim7 := { stood := { row := fnExactLineFromRow, standIns := [], harness := (true, "c27a5f422bc19fad9b099a24a81dfce08ff7aa4c9574487eb99778900b9511b7"), looks := false }, kinds := [], alts := [], laidByText := true, laidKinds := [.data, .pinned], laidTests := true, laidLooks := .later }
def FnExactLineFromCardSaid : Prop := Claim7.holds Tryd.pinned (.plain (OpenSpec.ofChange fnExactLineFromSpec)) fnExactLineFromCard

/-- THE SECOND FORM's CARD OF 'laws.FnExactLineFrom'. -/
def fnExactLineFromUptoCard : Claim7 := { stood := { row := fnExactLineFromUptoRow, standIns := [], harness := (true, "c27a5f422bc19fad9b099a24a81dfce08ff7aa4c9574487eb99778900b9511b7"), looks := false }, kinds := [], alts := [], laidByText := true, laidKinds := [.data, .pinned], laidTests := true, laidLooks := .later }
def FnExactLineFromUptoCardSaid : Prop := Claim7.holds Tryd.pinned (.plain (OpenSpec.upto fnExactLineFromSpec)) fnExactLineFromUptoCard
end Rows
end Go.Proofs.YtlpagnbfjechhaaDoor
