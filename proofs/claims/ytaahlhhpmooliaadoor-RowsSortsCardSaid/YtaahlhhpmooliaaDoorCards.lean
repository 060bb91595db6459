/-
  DERIVED. GIVEN WITH THE SEED: THE CARDS: each row of YtaahlhhpmooliaaDoorRows.lean that lists a variable, with what it lists TIED to the program's text (the seventh form; the later family's looks); each row that meets fmt, with fmt's text TOLD by the authors' own Lean function (tested against real Go, not proved from fmt's source: count such statements apart). THE CARD IS WHAT COUNTS. Prove the row's statement (the work); the ties are given (YtaahlhhpmooliaaDoorTie.lean); close each card by the builder's one call (the guide's Derived/Test/ToyasCard.lean, 'card_holds'). Laid BY PROGRAM, IN A SANDBOX (cutbox-door.mjs). By AI agents, Wed Nov 11 2026. No macro, syntax, notation, axiom, sorry.
-/
import Derived.Test.YtaahlhhpmooliaaDoorRows
import GoSem.ClaimSeven
namespace Go.Proofs.YtaahlhhpmooliaaDoor
namespace Rows

/-- THE TIED CARD OF 'trommellaw14.AggGroups'. -/
def aggGroupsCard : Claim7 := { stood := { row := aggGroupsRow, standIns := [], harness := (true, "aeb0ce4609823a4aa3fc9d52b9c585e4cb1504c24b643051fa0edaab32081864"), looks := false }, kinds := [], alts := [], laidByText := true, laidKinds := [.data, .data, .data], laidTests := true, laidLooks := .later }
def AggGroupsCardSaid : Prop := Claim7.holds Tryd.pinned (.plain (OpenSpec.ofChange aggGroupsSpec)) aggGroupsCard

/-- THE TIED CARD OF 'trommellaw04.RowsParts'. -/
def rowsPartsCard : Claim7 := { stood := { row := rowsPartsRow, standIns := [], harness := (true, "aeb0ce4609823a4aa3fc9d52b9c585e4cb1504c24b643051fa0edaab32081864"), looks := false }, kinds := [], alts := [], laidByText := true, laidKinds := [.data, .data, .data], laidTests := true, laidLooks := .later }
def RowsPartsCardSaid : Prop := Claim7.holds Tryd.pinned (.plain (OpenSpec.ofChange rowsPartsSpec)) rowsPartsCard

/-- THE TIED CARD OF 'trommellaw04.RowsTwo'. -/
def rowsTwoCard : Claim7 := { stood := { row := rowsTwoRow, standIns := [], harness := (true, "aeb0ce4609823a4aa3fc9d52b9c585e4cb1504c24b643051fa0edaab32081864"), looks := false }, kinds := [], alts := [], laidByText := true, laidKinds := [.data, .data, .data], laidTests := true, laidLooks := .later }
def RowsTwoCardSaid : Prop := Claim7.holds Tryd.pinned (.plain (OpenSpec.ofChange rowsTwoSpec)) rowsTwoCard

/-- THE TIED CARD OF 'trommellaw04.RowsSorts'. -/
def rowsSortsCard : Claim7 := { stood := { row := rowsSortsRow, standIns := [], harness := (true, "aeb0ce4609823a4aa3fc9d52b9c585e4cb1504c24b643051fa0edaab32081864"), looks := false }, kinds := [], alts := [], laidByText := true, laidKinds := [.data, .data, .data], laidTests := true, laidLooks := .later }
def RowsSortsCardSaid : Prop := Claim7.holds Tryd.pinned (.plain (OpenSpec.ofChange rowsSortsSpec)) rowsSortsCard

/-- THE SECOND FORM's CARD OF 'trommellaw14.AggGroups'. -/
def aggGroupsUptoCard : Claim7 := { stood := { row := aggGroupsUptoRow, standIns := [], harness := (true, "aeb0ce4609823a4aa3fc9d52b9c585e4cb1504c24b643051fa0edaab32081864"), looks := false }, kinds := [], alts := [], laidByText := true, laidKinds := [.data, .data, .data], laidTests := true, laidLooks := .later }
def AggGroupsUptoCardSaid : Prop := Claim7.holds Tryd.pinned (.plain (OpenSpec.upto aggGroupsSpec)) aggGroupsUptoCard

/-- THE SECOND FORM's CARD OF 'trommellaw04.RowsParts'. -/
def rowsPartsUptoCard : Claim7 := { stood := { row := rowsPartsUptoRow, standIns := [], harness := (true, "aeb0ce4609823a4aa3fc9d52b9c585e4cb1504c24b643051fa0edaab32081864"), looks := false }, kinds := [], alts := [], laidByText := true, laidKinds := [.data, .data, .data], laidTests := true, laidLooks := .later }
def RowsPartsUptoCardSaid : Prop := Claim7.holds Tryd.pinned (.plain (OpenSpec.upto rowsPartsSpec)) rowsPartsUptoCard

/-- THE SECOND FORM's CARD OF 'trommellaw04.RowsTwo'. -/
def rowsTwoUptoCard : Claim7 := { stood := { row := rowsTwoUptoRow, standIns := [], harness := (true, "aeb0ce4609823a4aa3fc9d52b9c585e4cb1504c24b643051fa0edaab32081864"), looks := false }, kinds := [], alts := [], laidByText := true, laidKinds := [.data, .data, .data], laidTests := true, laidLooks := .later }
def RowsTwoUptoCardSaid : Prop := Claim7.holds Tryd.pinned (.plain (OpenSpec.upto rowsTwoSpec)) rowsTwoUptoCard

/-- THE SECOND FORM's CARD OF 'trommellaw04.RowsSorts'. -/
def rowsSortsUptoCard : Claim7 := { stood := { row := rowsSortsUptoRow, standIns := [], harness := (true, "aeb0ce4609823a4aa3fc9d52b9c585e4cb1504c24b643051fa0edaab32081864"), looks := false }, kinds := [], alts := [], laidByText := true, laidKinds := [.data, .data, .data], laidTests := true, laidLooks := .later }
def RowsSortsUptoCardSaid : Prop := Claim7.holds Tryd.pinned (.plain (OpenSpec.upto rowsSortsSpec)) rowsSortsUptoCard
end Rows
end Go.Proofs.YtaahlhhpmooliaaDoor
