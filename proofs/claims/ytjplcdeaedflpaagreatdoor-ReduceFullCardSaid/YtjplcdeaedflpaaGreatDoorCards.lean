/-
  DERIVED. GIVEN WITH THE SEED: THE CARDS: each row of YtjplcdeaedflpaaGreatDoorRows.lean that lists a variable, with what it lists TIED to the program's text (the seventh form; the later family's looks); each row that meets fmt, with fmt's text TOLD by the authors' own Lean function (tested against real Go, not proved from fmt's source: count such statements apart). THE CARD IS WHAT COUNTS. Prove the row's statement (the work); the ties are given (YtjplcdeaedflpaaGreatDoorTie.lean); close each card by the builder's one call (the guide's Derived/Test/ToyasCard.lean, 'card_holds'). Laid BY PROGRAM, IN A SANDBOX (cutbox-door.mjs). By AI agents, Wed Nov 11 2026. No macro, syntax, notation, axiom, sorry.
-/
import Derived.Test.YtjplcdeaedflpaaGreatDoorRows
import GoSem.ClaimSeven
namespace Go.Proofs.YtjplcdeaedflpaaGreatDoor
namespace Rows

/-- THE TIED CARD OF 'trommellaw24.SemiTwo'. -/
def semiTwoCard : Claim7 := { stood := { row := semiTwoRow, standIns := [], harness := (true, "83b558e777898822b5839df402ce47fa45f1890ace5d3aab7da702a8e9415742"), looks := false }, kinds := [], alts := [], laidByText := true, laidKinds := [.data, .data, .data], laidTests := true, laidLooks := .later }
def SemiTwoCardSaid : Prop := Claim7.holds Tryz.pinned (.plain (OpenSpec.ofChange semiTwoSpec)) semiTwoCard

/-- THE TIED CARD OF 'trommellaw24.SemiAll'. -/
def semiAllCard : Claim7 := { stood := { row := semiAllRow, standIns := [], harness := (true, "83b558e777898822b5839df402ce47fa45f1890ace5d3aab7da702a8e9415742"), looks := false }, kinds := [], alts := [], laidByText := true, laidKinds := [.data, .data, .data], laidTests := true, laidLooks := .later }
def SemiAllCardSaid : Prop := Claim7.holds Tryz.pinned (.plain (OpenSpec.ofChange semiAllSpec)) semiAllCard

/-- THE TIED CARD OF 'trommellaw25.ReducePrograms'. -/
def reduceProgramsCard : Claim7 := { stood := { row := reduceProgramsRow, standIns := [], harness := (true, "83b558e777898822b5839df402ce47fa45f1890ace5d3aab7da702a8e9415742"), looks := false }, kinds := [], alts := [], laidByText := true, laidKinds := [.data, .data, .data], laidTests := true, laidLooks := .later }
def ReduceProgramsCardSaid : Prop := Claim7.holds Tryz.pinned (.plain (OpenSpec.ofChange reduceProgramsSpec)) reduceProgramsCard

/-- THE TIED CARD OF 'trommellaw25.ReduceEvals'. -/
def reduceEvalsCard : Claim7 := { stood := { row := reduceEvalsRow, standIns := [], harness := (true, "83b558e777898822b5839df402ce47fa45f1890ace5d3aab7da702a8e9415742"), looks := false }, kinds := [], alts := [], laidByText := true, laidKinds := [.data, .data, .data], laidTests := true, laidLooks := .later }
def ReduceEvalsCardSaid : Prop := Claim7.holds Tryz.pinned (.plain (OpenSpec.ofChange reduceEvalsSpec)) reduceEvalsCard

/-- THE TIED CARD OF 'trommellaw25.ReduceRises'. -/
def reduceRisesCard : Claim7 := { stood := { row := reduceRisesRow, standIns := [], harness := (true, "83b558e777898822b5839df402ce47fa45f1890ace5d3aab7da702a8e9415742"), looks := false }, kinds := [], alts := [], laidByText := true, laidKinds := [.data, .data, .data], laidTests := true, laidLooks := .later }
def ReduceRisesCardSaid : Prop := Claim7.holds Tryz.pinned (.plain (OpenSpec.ofChange reduceRisesSpec)) reduceRisesCard

/-- THE TIED CARD OF 'trommellaw25.ReduceKeeps'. -/
def reduceKeepsCard : Claim7 := { stood := { row := reduceKeepsRow, standIns := [], harness := (true, "83b558e777898822b5839df402ce47fa45f1890ace5d3aab7da702a8e9415742"), looks := false }, kinds := [], alts := [], laidByText := true, laidKinds := [.data, .data, .data], laidTests := true, laidLooks := .later }
def ReduceKeepsCardSaid : Prop := Claim7.holds Tryz.pinned (.plain (OpenSpec.ofChange reduceKeepsSpec)) reduceKeepsCard

/-- THE TIED CARD OF 'trommellaw25.ReduceFull'. -/
def reduceFullCard : Claim7 := { stood := { row := reduceFullRow, standIns := [], harness := (true, "83b558e777898822b5839df402ce47fa45f1890ace5d3aab7da702a8e9415742"), looks := false }, kinds := [], alts := [], laidByText := true, laidKinds := [.data, .data, .data], laidTests := true, laidLooks := .later }
def ReduceFullCardSaid : Prop := Claim7.holds Tryz.pinned (.plain (OpenSpec.ofChange reduceFullSpec)) reduceFullCard

/-- THE SECOND FORM's CARD OF 'trommellaw24.SemiTwo'. -/
def semiTwoUptoCard : Claim7 := { stood := { row := semiTwoUptoRow, standIns := [], harness := (true, "83b558e777898822b5839df402ce47fa45f1890ace5d3aab7da702a8e9415742"), looks := false }, kinds := [], alts := [], laidByText := true, laidKinds := [.data, .data, .data], laidTests := true, laidLooks := .later }
def SemiTwoUptoCardSaid : Prop := Claim7.holds Tryz.pinned (.plain (OpenSpec.upto semiTwoSpec)) semiTwoUptoCard

/-- THE SECOND FORM's CARD OF 'trommellaw24.SemiAll'. -/
def semiAllUptoCard : Claim7 := { stood := { row := semiAllUptoRow, standIns := [], harness := (true, "83b558e777898822b5839df402ce47fa45f1890ace5d3aab7da702a8e9415742"), looks := false }, kinds := [], alts := [], laidByText := true, laidKinds := [.data, .data, .data], laidTests := true, laidLooks := .later }
def SemiAllUptoCardSaid : Prop := Claim7.holds Tryz.pinned (.plain (OpenSpec.upto semiAllSpec)) semiAllUptoCard

/-- THE SECOND FORM's CARD OF 'trommellaw25.ReducePrograms'. -/
def reduceProgramsUptoCard : Claim7 := { stood := { row := reduceProgramsUptoRow, standIns := [], harness := (true, "83b558e777898822b5839df402ce47fa45f1890ace5d3aab7da702a8e9415742"), looks := false }, kinds := [], alts := [], laidByText := true, laidKinds := [.data, .data, .data], laidTests := true, laidLooks := .later }
def ReduceProgramsUptoCardSaid : Prop := Claim7.holds Tryz.pinned (.plain (OpenSpec.upto reduceProgramsSpec)) reduceProgramsUptoCard

/-- THE SECOND FORM's CARD OF 'trommellaw25.ReduceEvals'. -/
def reduceEvalsUptoCard : Claim7 := { stood := { row := reduceEvalsUptoRow, standIns := [], harness := (true, "83b558e777898822b5839df402ce47fa45f1890ace5d3aab7da702a8e9415742"), looks := false }, kinds := [], alts := [], laidByText := true, laidKinds := [.data, .data, .data], laidTests := true, laidLooks := .later }
def ReduceEvalsUptoCardSaid : Prop := Claim7.holds Tryz.pinned (.plain (OpenSpec.upto reduceEvalsSpec)) reduceEvalsUptoCard

/-- THE SECOND FORM's CARD OF 'trommellaw25.ReduceRises'. -/
def reduceRisesUptoCard : Claim7 := { stood := { row := reduceRisesUptoRow, standIns := [], harness := (true, "83b558e777898822b5839df402ce47fa45f1890ace5d3aab7da702a8e9415742"), looks := false }, kinds := [], alts := [], laidByText := true, laidKinds := [.data, .data, .data], laidTests := true, laidLooks := .later }
def ReduceRisesUptoCardSaid : Prop := Claim7.holds Tryz.pinned (.plain (OpenSpec.upto reduceRisesSpec)) reduceRisesUptoCard

/-- THE SECOND FORM's CARD OF 'trommellaw25.ReduceKeeps'. -/
def reduceKeepsUptoCard : Claim7 := { stood := { row := reduceKeepsUptoRow, standIns := [], harness := (true, "83b558e777898822b5839df402ce47fa45f1890ace5d3aab7da702a8e9415742"), looks := false }, kinds := [], alts := [], laidByText := true, laidKinds := [.data, .data, .data], laidTests := true, laidLooks := .later }
def ReduceKeepsUptoCardSaid : Prop := Claim7.holds Tryz.pinned (.plain (OpenSpec.upto reduceKeepsSpec)) reduceKeepsUptoCard

/-- THE SECOND FORM's CARD OF 'trommellaw25.ReduceFull'. -/
def reduceFullUptoCard : Claim7 := { stood := { row := reduceFullUptoRow, standIns := [], harness := (true, "83b558e777898822b5839df402ce47fa45f1890ace5d3aab7da702a8e9415742"), looks := false }, kinds := [], alts := [], laidByText := true, laidKinds := [.data, .data, .data], laidTests := true, laidLooks := .later }
def ReduceFullUptoCardSaid : Prop := Claim7.holds Tryz.pinned (.plain (OpenSpec.upto reduceFullSpec)) reduceFullUptoCard
end Rows
end Go.Proofs.YtjplcdeaedflpaaGreatDoor
