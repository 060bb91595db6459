/-
  DERIVED. GIVEN WITH THE SEED: THE CARDS: each row of YtjplcdeaedflpaaDoorRows.lean that lists a variable, with what it lists TIED to the program's text (the seventh form; the later family's looks); each row that meets fmt, with fmt's text TOLD by the authors' own Lean function (tested against real Go, not proved from fmt's source: count such statements apart). THE CARD IS WHAT COUNTS. Prove the row's statement (the work); the ties are given (YtjplcdeaedflpaaDoorTie.lean); close each card by the builder's one call (the guide's Derived/Test/ToyasCard.lean, 'card_holds'). Laid BY PROGRAM, IN A SANDBOX (cutbox-door.mjs). By AI agents, Wed Nov 11 2026. No macro, syntax, notation, axiom, sorry.
-/
import Derived.Test.YtjplcdeaedflpaaDoorRows
import GoSem.ClaimSeven
namespace Go.Proofs.YtjplcdeaedflpaaDoor
namespace Rows

/-- THE TIED CARD OF 'trommellaw24.SemiParts'. -/
def semiPartsCard : Claim7 := { stood := { row := semiPartsRow, standIns := [], harness := (true, "d1441180377333146d7959ffbecce742fcfe4f62de6104bc5ab4aca0b4885372"), looks := false }, kinds := [], alts := [], laidByText := true, laidKinds := [.data, .data, .data], laidTests := true, laidLooks := .later }
def SemiPartsCardSaid : Prop := Claim7.holds Tryd.pinned (.plain (OpenSpec.ofChange semiPartsSpec)) semiPartsCard

/-- THE SECOND FORM's CARD OF 'trommellaw24.SemiParts'. -/
def semiPartsUptoCard : Claim7 := { stood := { row := semiPartsUptoRow, standIns := [], harness := (true, "d1441180377333146d7959ffbecce742fcfe4f62de6104bc5ab4aca0b4885372"), looks := false }, kinds := [], alts := [], laidByText := true, laidKinds := [.data, .data, .data], laidTests := true, laidLooks := .later }
def SemiPartsUptoCardSaid : Prop := Claim7.holds Tryd.pinned (.plain (OpenSpec.upto semiPartsSpec)) semiPartsUptoCard
end Rows
end Go.Proofs.YtjplcdeaedflpaaDoor
