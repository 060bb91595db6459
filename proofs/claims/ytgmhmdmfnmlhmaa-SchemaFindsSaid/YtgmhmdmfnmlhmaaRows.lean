/-
  No cell of these rows narrows 'for every input' (looked for: loops, veiled, ifaces, maps, wideKeys, modest, calm, conditions, laid).
  DERIVED. THE GIVEN ROWS OF THIS SEAT. 12 by the template 'for every input the law returns true; each argument reads behind the call as it read before'; 0 by the template 'total and deterministic' (their statements: YtgmhmdmfnmlhmaaTotals.lean).
  GIVEN WITH THE SEED: the statements are not yours to turn. If you find one false, say at which input.
  Laid BY PROGRAM, IN A SANDBOX (cutbox-rows.mjs): the forced cells as the released guide's own fill.sh prints them over the translation 47d202e5041214ac… (all of the seat's roots in one cut). By AI agents, Wed Nov 11 2026. No macro, syntax, notation, axiom, sorry.
-/
import Derived.Test.YtgmhmdmfnmlhmaaChecked
import GoSem.Claim
import GoSem.ClaimJoined
import GoSem.ClaimMapViews
import Derived.JoinedTies
import Derived.KernelRfl
namespace Go.Proofs.Ytgmhmdmfnmlhmaa
/- THE CELL 'sum', in the pinned program and in every row, IS THE sha256 OF THE DUMP (.gsa) THAT YtgmhmdmfnmlhmaaProg.lean LOADS. Nothing in Lean hashes anything: it is a label: what it is worth is what the hold of that sum in a sandbox is worth. -/
noncomputable def Try.pinned : Pinned := { name := "ytgmhmdmfnmlhmaa", sum := "47d202e5041214aca7b4a108e962545decc75e43589739d3e3afca116c0b774d", checked := Try.checked }
namespace Rows
def none {H : Type} : Left H := { results := [], args := [] }

/-- 'trommellaw05.SchemaNames': WHATEVER THE INPUT: true; the input reads as it did. -/
def schemaNamesSpec : ChangeSpec := { name := "schemaNames", fn := fun _ => fun
  | [d] => { results := [.lit (.bool true)], args := [d] }
  | _ => none }
def schemaNamesRow : OpenClaim := { program := "ytgmhmdmfnmlhmaa", sum := "47d202e5041214aca7b4a108e962545decc75e43589739d3e3afca116c0b774d", func := "trommel/trommellaw05.SchemaNames", spec := "schemaNames", apart := false }
def SchemaNamesSaid : Prop := schemaNamesRow.holds Try.pinned (OpenSpec.ofChange schemaNamesSpec)

/-- ITS FALSE NEIGHBOUR: 'it returns false'. Refute it at one input. -/
def schemaNamesWrong : ChangeSpec := { name := "schemaNames", fn := fun _ => fun
  | [d] => { results := [.lit (.bool false)], args := [d] }
  | _ => none }
def SchemaNamesWrongFalsely : Prop := schemaNamesRow.holds Try.pinned (OpenSpec.ofChange schemaNamesWrong)

/-- 'trommellaw01.ValOrders': WHATEVER THE INPUT: true; the input reads as it did. -/
def valOrdersSpec : ChangeSpec := { name := "valOrders", fn := fun _ => fun
  | [d1, d2] => { results := [.lit (.bool true)], args := [d1, d2] }
  | _ => none }
def valOrdersRow : OpenClaim := { program := "ytgmhmdmfnmlhmaa", sum := "47d202e5041214aca7b4a108e962545decc75e43589739d3e3afca116c0b774d", func := "trommel/trommellaw01.ValOrders", spec := "valOrders", apart := false }
def ValOrdersSaid : Prop := valOrdersRow.holds Try.pinned (OpenSpec.ofChange valOrdersSpec)

/-- ITS FALSE NEIGHBOUR: 'it returns false'. Refute it at one input. -/
def valOrdersWrong : ChangeSpec := { name := "valOrders", fn := fun _ => fun
  | [d1, d2] => { results := [.lit (.bool false)], args := [d1, d2] }
  | _ => none }
def ValOrdersWrongFalsely : Prop := valOrdersRow.holds Try.pinned (OpenSpec.ofChange valOrdersWrong)

/-- 'trommellaw01.ValMakes': WHATEVER THE INPUT: true; the input reads as it did. -/
def valMakesSpec : ChangeSpec := { name := "valMakes", fn := fun _ => fun
  | [d1, d2, d3] => { results := [.lit (.bool true)], args := [d1, d2, d3] }
  | _ => none }
def valMakesRow : OpenClaim := { program := "ytgmhmdmfnmlhmaa", sum := "47d202e5041214aca7b4a108e962545decc75e43589739d3e3afca116c0b774d", func := "trommel/trommellaw01.ValMakes", spec := "valMakes", apart := false }
def ValMakesSaid : Prop := valMakesRow.holds Try.pinned (OpenSpec.ofChange valMakesSpec)

/-- ITS FALSE NEIGHBOUR: 'it returns false'. Refute it at one input. -/
def valMakesWrong : ChangeSpec := { name := "valMakes", fn := fun _ => fun
  | [d1, d2, d3] => { results := [.lit (.bool false)], args := [d1, d2, d3] }
  | _ => none }
def ValMakesWrongFalsely : Prop := valMakesRow.holds Try.pinned (OpenSpec.ofChange valMakesWrong)

/-- 'trommellaw01.ValKeys': WHATEVER THE INPUT: true; the input reads as it did. -/
def valKeysSpec : ChangeSpec := { name := "valKeys", fn := fun _ => fun
  | [d1, d2] => { results := [.lit (.bool true)], args := [d1, d2] }
  | _ => none }
def valKeysRow : OpenClaim := { program := "ytgmhmdmfnmlhmaa", sum := "47d202e5041214aca7b4a108e962545decc75e43589739d3e3afca116c0b774d", func := "trommel/trommellaw01.ValKeys", spec := "valKeys", apart := false }
def ValKeysSaid : Prop := valKeysRow.holds Try.pinned (OpenSpec.ofChange valKeysSpec)

/-- ITS FALSE NEIGHBOUR: 'it returns false'. Refute it at one input. -/
def valKeysWrong : ChangeSpec := { name := "valKeys", fn := fun _ => fun
  | [d1, d2] => { results := [.lit (.bool false)], args := [d1, d2] }
  | _ => none }
def ValKeysWrongFalsely : Prop := valKeysRow.holds Try.pinned (OpenSpec.ofChange valKeysWrong)

/-- 'trommellaw02.LogicTables': WHATEVER THE INPUT: true; the input reads as it did. -/
def logicTablesSpec : ChangeSpec := { name := "logicTables", fn := fun _ => fun
  | [d1, d2, d3] => { results := [.lit (.bool true)], args := [d1, d2, d3] }
  | _ => none }
def logicTablesRow : OpenClaim := { program := "ytgmhmdmfnmlhmaa", sum := "47d202e5041214aca7b4a108e962545decc75e43589739d3e3afca116c0b774d", func := "trommel/trommellaw02.LogicTables", spec := "logicTables", unfollowed := true, recurses := true, apart := false }
def LogicTablesSaid : Prop := logicTablesRow.holds Try.pinned (OpenSpec.ofChange logicTablesSpec)

/-- ITS FALSE NEIGHBOUR: 'it returns false'. Refute it at one input. -/
def logicTablesWrong : ChangeSpec := { name := "logicTables", fn := fun _ => fun
  | [d1, d2, d3] => { results := [.lit (.bool false)], args := [d1, d2, d3] }
  | _ => none }
def LogicTablesWrongFalsely : Prop := logicTablesRow.holds Try.pinned (OpenSpec.ofChange logicTablesWrong)

/-- 'trommellaw02.LogicLaws': WHATEVER THE INPUT: true; the input reads as it did. -/
def logicLawsSpec : ChangeSpec := { name := "logicLaws", fn := fun _ => fun
  | [d1, d2, d3] => { results := [.lit (.bool true)], args := [d1, d2, d3] }
  | _ => none }
def logicLawsRow : OpenClaim := { program := "ytgmhmdmfnmlhmaa", sum := "47d202e5041214aca7b4a108e962545decc75e43589739d3e3afca116c0b774d", func := "trommel/trommellaw02.LogicLaws", spec := "logicLaws", unfollowed := true, recurses := true, apart := false }
def LogicLawsSaid : Prop := logicLawsRow.holds Try.pinned (OpenSpec.ofChange logicLawsSpec)

/-- ITS FALSE NEIGHBOUR: 'it returns false'. Refute it at one input. -/
def logicLawsWrong : ChangeSpec := { name := "logicLaws", fn := fun _ => fun
  | [d1, d2, d3] => { results := [.lit (.bool false)], args := [d1, d2, d3] }
  | _ => none }
def LogicLawsWrongFalsely : Prop := logicLawsRow.holds Try.pinned (OpenSpec.ofChange logicLawsWrong)

/-- 'trommellaw02.LogicTests': WHATEVER THE INPUT: true; the input reads as it did. -/
def logicTestsSpec : ChangeSpec := { name := "logicTests", fn := fun _ => fun
  | [d1, d2, d3] => { results := [.lit (.bool true)], args := [d1, d2, d3] }
  | _ => none }
def logicTestsRow : OpenClaim := { program := "ytgmhmdmfnmlhmaa", sum := "47d202e5041214aca7b4a108e962545decc75e43589739d3e3afca116c0b774d", func := "trommel/trommellaw02.LogicTests", spec := "logicTests", unfollowed := true, recurses := true, apart := false }
def LogicTestsSaid : Prop := logicTestsRow.holds Try.pinned (OpenSpec.ofChange logicTestsSpec)

/-- ITS FALSE NEIGHBOUR: 'it returns false'. Refute it at one input. -/
def logicTestsWrong : ChangeSpec := { name := "logicTests", fn := fun _ => fun
  | [d1, d2, d3] => { results := [.lit (.bool false)], args := [d1, d2, d3] }
  | _ => none }
def LogicTestsWrongFalsely : Prop := logicTestsRow.holds Try.pinned (OpenSpec.ofChange logicTestsWrong)

/-- 'trommellaw03.ArithSums': WHATEVER THE INPUT: true; the input reads as it did. -/
def arithSumsSpec : ChangeSpec := { name := "arithSums", fn := fun _ => fun
  | [d1, d2] => { results := [.lit (.bool true)], args := [d1, d2] }
  | _ => none }
def arithSumsRow : OpenClaim := { program := "ytgmhmdmfnmlhmaa", sum := "47d202e5041214aca7b4a108e962545decc75e43589739d3e3afca116c0b774d", func := "trommel/trommellaw03.ArithSums", spec := "arithSums", inPlace := ["math/bits.Add64"], apart := false }
def ArithSumsSaid : Prop := arithSumsRow.holds Try.pinned (OpenSpec.ofChange arithSumsSpec)

/-- ITS FALSE NEIGHBOUR: 'it returns false'. Refute it at one input. -/
def arithSumsWrong : ChangeSpec := { name := "arithSums", fn := fun _ => fun
  | [d1, d2] => { results := [.lit (.bool false)], args := [d1, d2] }
  | _ => none }
def ArithSumsWrongFalsely : Prop := arithSumsRow.holds Try.pinned (OpenSpec.ofChange arithSumsWrong)

/-- 'trommellaw03.ArithSigns': WHATEVER THE INPUT: true; the input reads as it did. -/
def arithSignsSpec : ChangeSpec := { name := "arithSigns", fn := fun _ => fun
  | [d1, d2] => { results := [.lit (.bool true)], args := [d1, d2] }
  | _ => none }
def arithSignsRow : OpenClaim := { program := "ytgmhmdmfnmlhmaa", sum := "47d202e5041214aca7b4a108e962545decc75e43589739d3e3afca116c0b774d", func := "trommel/trommellaw03.ArithSigns", spec := "arithSigns", inPlace := ["math/bits.Add64", "math/bits.Sub64"], apart := false }
def ArithSignsSaid : Prop := arithSignsRow.holds Try.pinned (OpenSpec.ofChange arithSignsSpec)

/-- ITS FALSE NEIGHBOUR: 'it returns false'. Refute it at one input. -/
def arithSignsWrong : ChangeSpec := { name := "arithSigns", fn := fun _ => fun
  | [d1, d2] => { results := [.lit (.bool false)], args := [d1, d2] }
  | _ => none }
def ArithSignsWrongFalsely : Prop := arithSignsRow.holds Try.pinned (OpenSpec.ofChange arithSignsWrong)

/-- 'trommellaw03.ArithDoes': WHATEVER THE INPUT: true; the input reads as it did. -/
def arithDoesSpec : ChangeSpec := { name := "arithDoes", fn := fun _ => fun
  | [d1, d2, d3] => { results := [.lit (.bool true)], args := [d1, d2, d3] }
  | _ => none }
def arithDoesRow : OpenClaim := { program := "ytgmhmdmfnmlhmaa", sum := "47d202e5041214aca7b4a108e962545decc75e43589739d3e3afca116c0b774d", func := "trommel/trommellaw03.ArithDoes", spec := "arithDoes", inPlace := ["math/bits.Add64", "math/bits.Sub64"], unfollowed := true, recurses := true, apart := false }
def ArithDoesSaid : Prop := arithDoesRow.holds Try.pinned (OpenSpec.ofChange arithDoesSpec)

/-- ITS FALSE NEIGHBOUR: 'it returns false'. Refute it at one input. -/
def arithDoesWrong : ChangeSpec := { name := "arithDoes", fn := fun _ => fun
  | [d1, d2, d3] => { results := [.lit (.bool false)], args := [d1, d2, d3] }
  | _ => none }
def ArithDoesWrongFalsely : Prop := arithDoesRow.holds Try.pinned (OpenSpec.ofChange arithDoesWrong)

/-- 'trommellaw05.SchemaFinds': WHATEVER THE INPUT: true; the input reads as it did. -/
def schemaFindsSpec : ChangeSpec := { name := "schemaFinds", fn := fun _ => fun
  | [d1, d2, d3, d4] => { results := [.lit (.bool true)], args := [d1, d2, d3, d4] }
  | _ => none }
def schemaFindsRow : OpenClaim := { program := "ytgmhmdmfnmlhmaa", sum := "47d202e5041214aca7b4a108e962545decc75e43589739d3e3afca116c0b774d", func := "trommel/trommellaw05.SchemaFinds", spec := "schemaFinds", unfollowed := true, recurses := true, apart := false }
def SchemaFindsSaid : Prop := schemaFindsRow.holds Try.pinned (OpenSpec.ofChange schemaFindsSpec)

/-- ITS FALSE NEIGHBOUR: 'it returns false'. Refute it at one input. -/
def schemaFindsWrong : ChangeSpec := { name := "schemaFinds", fn := fun _ => fun
  | [d1, d2, d3, d4] => { results := [.lit (.bool false)], args := [d1, d2, d3, d4] }
  | _ => none }
def SchemaFindsWrongFalsely : Prop := schemaFindsRow.holds Try.pinned (OpenSpec.ofChange schemaFindsWrong)

/-- 'trommellaw05.SchemaChecks': WHATEVER THE INPUT: true; the input reads as it did. -/
def schemaChecksSpec : ChangeSpec := { name := "schemaChecks", fn := fun _ => fun
  | [d] => { results := [.lit (.bool true)], args := [d] }
  | _ => none }
def schemaChecksRow : OpenClaim := { program := "ytgmhmdmfnmlhmaa", sum := "47d202e5041214aca7b4a108e962545decc75e43589739d3e3afca116c0b774d", func := "trommel/trommellaw05.SchemaChecks", spec := "schemaChecks", apart := false }
def SchemaChecksSaid : Prop := schemaChecksRow.holds Try.pinned (OpenSpec.ofChange schemaChecksSpec)

/-- ITS FALSE NEIGHBOUR: 'it returns false'. Refute it at one input. -/
def schemaChecksWrong : ChangeSpec := { name := "schemaChecks", fn := fun _ => fun
  | [d] => { results := [.lit (.bool false)], args := [d] }
  | _ => none }
def SchemaChecksWrongFalsely : Prop := schemaChecksRow.holds Try.pinned (OpenSpec.ofChange schemaChecksWrong)

/- THE SECOND FORM. 'bulk': how many values and letters a reading holds, each counted each time it is reached (what is shared counts as often as it is met; a slice's spare places count too). A statement '..UptoSaid' is the law's where the arguments, and the package variables that the reading takes, are together of bulk at most 1048576: NARROWER than '..Said'. Prove '..Said' where nothing that the law and all that it calls make is longer than what came in: it says more and counts as full. Else prove '..UptoSaid'. A law counts once. -/
mutual
def uptoBulk {H : Type} : DataW H → Nat
  | .lit (.string bytes) => bytes.length + 1
  | .lit _ => 1
  | .nil => 1
  | .ptr d => uptoBulk d + 1
  | .slice elems spare => uptoBulkAll elems + uptoBulkAll spare + 1
  | .agg parts => uptoBulkAll parts + 1
  | .iface _ d => uptoBulk d + 1
  | .map entries => uptoBulkEntries entries + 1
  | .held _ => 1
def uptoBulkAll {H : Type} : List (DataW H) → Nat
  | [] => 0
  | d :: r => uptoBulk d + uptoBulkAll r
def uptoBulkEntries {H : Type} : List (Lit × DataW H) → Nat
  | [] => 0
  | x :: r => uptoBulkEntry x + uptoBulkEntries r
def uptoBulkEntry {H : Type} : Lit × DataW H → Nat
  | (.string bytes, d) => bytes.length + uptoBulk d + 1
  | (_, d) => uptoBulk d + 1
 end
def uptoSmall : (H : Type) → List (DataW H) → Bool := fun _ ds => decide (uptoBulkAll ds ≤ 1048576)
def OpenSpec.upto (s : _root_.Go.ChangeSpec) : _root_.Go.OpenSpec := { _root_.Go.OpenSpec.ofChange s with cond := some uptoSmall }

/-- 'trommellaw05.SchemaNames', WHERE WHAT IT READS IS OF BULK AT MOST 1048576: true; the input reads as it did. -/
def schemaNamesUptoRow : OpenClaim := { program := "ytgmhmdmfnmlhmaa", sum := "47d202e5041214aca7b4a108e962545decc75e43589739d3e3afca116c0b774d", func := "trommel/trommellaw05.SchemaNames", spec := "schemaNames", apart := false, narrowed := true }
def SchemaNamesUptoSaid : Prop := schemaNamesUptoRow.holds Try.pinned (OpenSpec.upto schemaNamesSpec)

/-- 'trommellaw01.ValOrders', WHERE WHAT IT READS IS OF BULK AT MOST 1048576: true; the input reads as it did. -/
def valOrdersUptoRow : OpenClaim := { program := "ytgmhmdmfnmlhmaa", sum := "47d202e5041214aca7b4a108e962545decc75e43589739d3e3afca116c0b774d", func := "trommel/trommellaw01.ValOrders", spec := "valOrders", apart := false, narrowed := true }
def ValOrdersUptoSaid : Prop := valOrdersUptoRow.holds Try.pinned (OpenSpec.upto valOrdersSpec)

/-- 'trommellaw01.ValMakes', WHERE WHAT IT READS IS OF BULK AT MOST 1048576: true; the input reads as it did. -/
def valMakesUptoRow : OpenClaim := { program := "ytgmhmdmfnmlhmaa", sum := "47d202e5041214aca7b4a108e962545decc75e43589739d3e3afca116c0b774d", func := "trommel/trommellaw01.ValMakes", spec := "valMakes", apart := false, narrowed := true }
def ValMakesUptoSaid : Prop := valMakesUptoRow.holds Try.pinned (OpenSpec.upto valMakesSpec)

/-- 'trommellaw01.ValKeys', WHERE WHAT IT READS IS OF BULK AT MOST 1048576: true; the input reads as it did. -/
def valKeysUptoRow : OpenClaim := { program := "ytgmhmdmfnmlhmaa", sum := "47d202e5041214aca7b4a108e962545decc75e43589739d3e3afca116c0b774d", func := "trommel/trommellaw01.ValKeys", spec := "valKeys", apart := false, narrowed := true }
def ValKeysUptoSaid : Prop := valKeysUptoRow.holds Try.pinned (OpenSpec.upto valKeysSpec)

/-- 'trommellaw02.LogicTables', WHERE WHAT IT READS IS OF BULK AT MOST 1048576: true; the input reads as it did. -/
def logicTablesUptoRow : OpenClaim := { program := "ytgmhmdmfnmlhmaa", sum := "47d202e5041214aca7b4a108e962545decc75e43589739d3e3afca116c0b774d", func := "trommel/trommellaw02.LogicTables", spec := "logicTables", unfollowed := true, recurses := true, apart := false, narrowed := true }
def LogicTablesUptoSaid : Prop := logicTablesUptoRow.holds Try.pinned (OpenSpec.upto logicTablesSpec)

/-- 'trommellaw02.LogicLaws', WHERE WHAT IT READS IS OF BULK AT MOST 1048576: true; the input reads as it did. -/
def logicLawsUptoRow : OpenClaim := { program := "ytgmhmdmfnmlhmaa", sum := "47d202e5041214aca7b4a108e962545decc75e43589739d3e3afca116c0b774d", func := "trommel/trommellaw02.LogicLaws", spec := "logicLaws", unfollowed := true, recurses := true, apart := false, narrowed := true }
def LogicLawsUptoSaid : Prop := logicLawsUptoRow.holds Try.pinned (OpenSpec.upto logicLawsSpec)

/-- 'trommellaw02.LogicTests', WHERE WHAT IT READS IS OF BULK AT MOST 1048576: true; the input reads as it did. -/
def logicTestsUptoRow : OpenClaim := { program := "ytgmhmdmfnmlhmaa", sum := "47d202e5041214aca7b4a108e962545decc75e43589739d3e3afca116c0b774d", func := "trommel/trommellaw02.LogicTests", spec := "logicTests", unfollowed := true, recurses := true, apart := false, narrowed := true }
def LogicTestsUptoSaid : Prop := logicTestsUptoRow.holds Try.pinned (OpenSpec.upto logicTestsSpec)

/-- 'trommellaw03.ArithSums', WHERE WHAT IT READS IS OF BULK AT MOST 1048576: true; the input reads as it did. -/
def arithSumsUptoRow : OpenClaim := { program := "ytgmhmdmfnmlhmaa", sum := "47d202e5041214aca7b4a108e962545decc75e43589739d3e3afca116c0b774d", func := "trommel/trommellaw03.ArithSums", spec := "arithSums", inPlace := ["math/bits.Add64"], apart := false, narrowed := true }
def ArithSumsUptoSaid : Prop := arithSumsUptoRow.holds Try.pinned (OpenSpec.upto arithSumsSpec)

/-- 'trommellaw03.ArithSigns', WHERE WHAT IT READS IS OF BULK AT MOST 1048576: true; the input reads as it did. -/
def arithSignsUptoRow : OpenClaim := { program := "ytgmhmdmfnmlhmaa", sum := "47d202e5041214aca7b4a108e962545decc75e43589739d3e3afca116c0b774d", func := "trommel/trommellaw03.ArithSigns", spec := "arithSigns", inPlace := ["math/bits.Add64", "math/bits.Sub64"], apart := false, narrowed := true }
def ArithSignsUptoSaid : Prop := arithSignsUptoRow.holds Try.pinned (OpenSpec.upto arithSignsSpec)

/-- 'trommellaw03.ArithDoes', WHERE WHAT IT READS IS OF BULK AT MOST 1048576: true; the input reads as it did. -/
def arithDoesUptoRow : OpenClaim := { program := "ytgmhmdmfnmlhmaa", sum := "47d202e5041214aca7b4a108e962545decc75e43589739d3e3afca116c0b774d", func := "trommel/trommellaw03.ArithDoes", spec := "arithDoes", inPlace := ["math/bits.Add64", "math/bits.Sub64"], unfollowed := true, recurses := true, apart := false, narrowed := true }
def ArithDoesUptoSaid : Prop := arithDoesUptoRow.holds Try.pinned (OpenSpec.upto arithDoesSpec)

/-- 'trommellaw05.SchemaFinds', WHERE WHAT IT READS IS OF BULK AT MOST 1048576: true; the input reads as it did. -/
def schemaFindsUptoRow : OpenClaim := { program := "ytgmhmdmfnmlhmaa", sum := "47d202e5041214aca7b4a108e962545decc75e43589739d3e3afca116c0b774d", func := "trommel/trommellaw05.SchemaFinds", spec := "schemaFinds", unfollowed := true, recurses := true, apart := false, narrowed := true }
def SchemaFindsUptoSaid : Prop := schemaFindsUptoRow.holds Try.pinned (OpenSpec.upto schemaFindsSpec)

/-- 'trommellaw05.SchemaChecks', WHERE WHAT IT READS IS OF BULK AT MOST 1048576: true; the input reads as it did. -/
def schemaChecksUptoRow : OpenClaim := { program := "ytgmhmdmfnmlhmaa", sum := "47d202e5041214aca7b4a108e962545decc75e43589739d3e3afca116c0b774d", func := "trommel/trommellaw05.SchemaChecks", spec := "schemaChecks", apart := false, narrowed := true }
def SchemaChecksUptoSaid : Prop := schemaChecksUptoRow.holds Try.pinned (OpenSpec.upto schemaChecksSpec)

end Rows
end Go.Proofs.Ytgmhmdmfnmlhmaa
