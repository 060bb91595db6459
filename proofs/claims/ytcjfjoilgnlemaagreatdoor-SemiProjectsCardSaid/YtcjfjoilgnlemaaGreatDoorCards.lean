/-
  DERIVED. GIVEN WITH THE SEED: THE CARDS: each row of YtcjfjoilgnlemaaGreatDoorRows.lean that lists a variable, with what it lists TIED to the program's text (the seventh form; the later family's looks); each row that meets fmt, with fmt's text TOLD by the authors' own Lean function (tested against real Go, not proved from fmt's source: count such statements apart). THE CARD IS WHAT COUNTS. Prove the row's statement (the work); the ties are given (YtcjfjoilgnlemaaGreatDoorTie.lean); close each card by the builder's one call (the guide's Derived/Test/ToyasCard.lean, 'card_holds'). Laid BY PROGRAM, IN A SANDBOX (cutbox-door.mjs). By AI agents, Wed Nov 11 2026. No macro, syntax, notation, axiom, sorry.
-/
import Derived.Test.YtcjfjoilgnlemaaGreatDoorRows
import GoSem.ClaimSeven
namespace Go.Proofs.YtcjfjoilgnlemaaGreatDoor
namespace Rows

/-- THE TIED CARD OF 'trommellaw24.SemiProjects'. -/
def semiProjectsCard : Claim7 := { stood := { row := semiProjectsRow, standIns := [], harness := (true, "68ee8b88eaa22e3c59ea0854fd261bd3c26bf1a84164ab61d2fdae1796dfd05e"), looks := false }, kinds := [], alts := [], laidByText := true, laidKinds := [.data, .data, .data], laidTests := true, laidLooks := .later }
def SemiProjectsCardSaid : Prop := Claim7.holds Tryz.pinned (.plain (OpenSpec.ofChange semiProjectsSpec)) semiProjectsCard

/-- THE TIED CARD OF 'trommellaw24.SemiTwo'. -/
def semiTwoCard : Claim7 := { stood := { row := semiTwoRow, standIns := [], harness := (true, "68ee8b88eaa22e3c59ea0854fd261bd3c26bf1a84164ab61d2fdae1796dfd05e"), looks := false }, kinds := [], alts := [], laidByText := true, laidKinds := [.data, .data, .data], laidTests := true, laidLooks := .later }
def SemiTwoCardSaid : Prop := Claim7.holds Tryz.pinned (.plain (OpenSpec.ofChange semiTwoSpec)) semiTwoCard

/-- THE TIED CARD OF 'trommellaw24.SemiAll'. -/
def semiAllCard : Claim7 := { stood := { row := semiAllRow, standIns := [], harness := (true, "68ee8b88eaa22e3c59ea0854fd261bd3c26bf1a84164ab61d2fdae1796dfd05e"), looks := false }, kinds := [], alts := [], laidByText := true, laidKinds := [.data, .data, .data], laidTests := true, laidLooks := .later }
def SemiAllCardSaid : Prop := Claim7.holds Tryz.pinned (.plain (OpenSpec.ofChange semiAllSpec)) semiAllCard

/-- THE SECOND FORM's CARD OF 'trommellaw24.SemiProjects'. -/
def semiProjectsUptoCard : Claim7 := { stood := { row := semiProjectsUptoRow, standIns := [], harness := (true, "68ee8b88eaa22e3c59ea0854fd261bd3c26bf1a84164ab61d2fdae1796dfd05e"), looks := false }, kinds := [], alts := [], laidByText := true, laidKinds := [.data, .data, .data], laidTests := true, laidLooks := .later }
def SemiProjectsUptoCardSaid : Prop := Claim7.holds Tryz.pinned (.plain (OpenSpec.upto semiProjectsSpec)) semiProjectsUptoCard

/-- THE SECOND FORM's CARD OF 'trommellaw24.SemiTwo'. -/
def semiTwoUptoCard : Claim7 := { stood := { row := semiTwoUptoRow, standIns := [], harness := (true, "68ee8b88eaa22e3c59ea0854fd261bd3c26bf1a84164ab61d2fdae1796dfd05e"), looks := false }, kinds := [], alts := [], laidByText := true, laidKinds := [.data, .data, .data], laidTests := true, laidLooks := .later }
def SemiTwoUptoCardSaid : Prop := Claim7.holds Tryz.pinned (.plain (OpenSpec.upto semiTwoSpec)) semiTwoUptoCard

/-- THE SECOND FORM's CARD OF 'trommellaw24.SemiAll'. -/
def semiAllUptoCard : Claim7 := { stood := { row := semiAllUptoRow, standIns := [], harness := (true, "68ee8b88eaa22e3c59ea0854fd261bd3c26bf1a84164ab61d2fdae1796dfd05e"), looks := false }, kinds := [], alts := [], laidByText := true, laidKinds := [.data, .data, .data], laidTests := true, laidLooks := .later }
def SemiAllUptoCardSaid : Prop := Claim7.holds Tryz.pinned (.plain (OpenSpec.upto semiAllSpec)) semiAllUptoCard
end Rows
end Go.Proofs.YtcjfjoilgnlemaaGreatDoor
