/-
  NARROWER THAN 'FOR EVERY INPUT', by the rows' own cells (each row's printed sentence says how): NameResolves: loops · NameTwice: loops · NameExprs: loops · KindRight: loops · EvalVals: loops · EvalTruths: loops · EvalHangs: loops.
  DERIVED. THE GIVEN ROWS OF THIS SEAT. 8 by the template 'for every input the law returns true; each argument reads behind the call as it read before'; 0 by the template 'total and deterministic' (their statements: YtgmhmdmfnmlhmacTotals.lean).
  GIVEN WITH THE SEED: the statements are not yours to turn. If you find one false, say at which input.
  Laid BY PROGRAM, IN A SANDBOX (cutbox-rows.mjs): the forced cells as the released guide's own fill.sh prints them over the translation 76c3916ead4316de… (all of the seat's roots in one cut). By AI agents, Wed Nov 11 2026. No macro, syntax, notation, axiom, sorry.
-/
import Derived.Test.YtgmhmdmfnmlhmacChecked
import GoSem.Claim
import GoSem.ClaimJoined
import GoSem.ClaimMapViews
import Derived.JoinedTies
import Derived.KernelRfl
namespace Go.Proofs.Ytgmhmdmfnmlhmac
/- THE CELL 'sum', in the pinned program and in every row, IS THE sha256 OF THE DUMP (.gsa) THAT YtgmhmdmfnmlhmacProg.lean LOADS. Nothing in Lean hashes anything: it is a label: what it is worth is what the hold of that sum in a sandbox is worth. -/
noncomputable def Try.pinned : Pinned := { name := "ytgmhmdmfnmlhmac", sum := "76c3916ead4316dea78ee478bb4d1a63693351ca702cd4b0b7579122ccf2d932", checked := Try.checked }
namespace Rows
def none {H : Type} : Left H := { results := [], args := [] }

/-- 'trommellaw11.NameResolves': WHATEVER THE INPUT: true; the input reads as it did. -/
def nameResolvesSpec : ChangeSpec := { name := "nameResolves", fn := fun _ => fun
  | [d1, d2] => { results := [.lit (.bool true)], args := [d1, d2] }
  | _ => none }
def nameResolvesRow : OpenClaim := { program := "ytgmhmdmfnmlhmac", sum := "76c3916ead4316dea78ee478bb4d1a63693351ca702cd4b0b7579122ccf2d932", func := "trommel/trommellaw11.NameResolves", spec := "nameResolves", unfollowed := true, recurses := true, loops := true, apart := false }
def NameResolvesSaid : Prop := nameResolvesRow.holds Try.pinned (OpenSpec.ofChange nameResolvesSpec)

/-- ITS FALSE NEIGHBOUR: 'it returns false'. Refute it at one input. -/
def nameResolvesWrong : ChangeSpec := { name := "nameResolves", fn := fun _ => fun
  | [d1, d2] => { results := [.lit (.bool false)], args := [d1, d2] }
  | _ => none }
def NameResolvesWrongFalsely : Prop := nameResolvesRow.holds Try.pinned (OpenSpec.ofChange nameResolvesWrong)

/-- 'trommellaw11.NameTwice': WHATEVER THE INPUT: true; the input reads as it did. -/
def nameTwiceSpec : ChangeSpec := { name := "nameTwice", fn := fun _ => fun
  | [d1, d2] => { results := [.lit (.bool true)], args := [d1, d2] }
  | _ => none }
def nameTwiceRow : OpenClaim := { program := "ytgmhmdmfnmlhmac", sum := "76c3916ead4316dea78ee478bb4d1a63693351ca702cd4b0b7579122ccf2d932", func := "trommel/trommellaw11.NameTwice", spec := "nameTwice", unfollowed := true, recurses := true, loops := true, apart := false }
def NameTwiceSaid : Prop := nameTwiceRow.holds Try.pinned (OpenSpec.ofChange nameTwiceSpec)

/-- ITS FALSE NEIGHBOUR: 'it returns false'. Refute it at one input. -/
def nameTwiceWrong : ChangeSpec := { name := "nameTwice", fn := fun _ => fun
  | [d1, d2] => { results := [.lit (.bool false)], args := [d1, d2] }
  | _ => none }
def NameTwiceWrongFalsely : Prop := nameTwiceRow.holds Try.pinned (OpenSpec.ofChange nameTwiceWrong)

/-- 'trommellaw11.NameExprs': WHATEVER THE INPUT: true; the input reads as it did. -/
def nameExprsSpec : ChangeSpec := { name := "nameExprs", fn := fun _ => fun
  | [d1, d2, d3, d4, d5] => { results := [.lit (.bool true)], args := [d1, d2, d3, d4, d5] }
  | _ => none }
def nameExprsRow : OpenClaim := { program := "ytgmhmdmfnmlhmac", sum := "76c3916ead4316dea78ee478bb4d1a63693351ca702cd4b0b7579122ccf2d932", func := "trommel/trommellaw11.NameExprs", spec := "nameExprs", unfollowed := true, recurses := true, loops := true, apart := false }
def NameExprsSaid : Prop := nameExprsRow.holds Try.pinned (OpenSpec.ofChange nameExprsSpec)

/-- ITS FALSE NEIGHBOUR: 'it returns false'. Refute it at one input. -/
def nameExprsWrong : ChangeSpec := { name := "nameExprs", fn := fun _ => fun
  | [d1, d2, d3, d4, d5] => { results := [.lit (.bool false)], args := [d1, d2, d3, d4, d5] }
  | _ => none }
def NameExprsWrongFalsely : Prop := nameExprsRow.holds Try.pinned (OpenSpec.ofChange nameExprsWrong)

/-- 'trommellaw12.KindRight': WHATEVER THE INPUT: true; the input reads as it did. -/
def kindRightSpec : ChangeSpec := { name := "kindRight", fn := fun _ => fun
  | [d1, d2] => { results := [.lit (.bool true)], args := [d1, d2] }
  | _ => none }
def kindRightRow : OpenClaim := { program := "ytgmhmdmfnmlhmac", sum := "76c3916ead4316dea78ee478bb4d1a63693351ca702cd4b0b7579122ccf2d932", func := "trommel/trommellaw12.KindRight", spec := "kindRight", unfollowed := true, recurses := true, loops := true, apart := false }
def KindRightSaid : Prop := kindRightRow.holds Try.pinned (OpenSpec.ofChange kindRightSpec)

/-- ITS FALSE NEIGHBOUR: 'it returns false'. Refute it at one input. -/
def kindRightWrong : ChangeSpec := { name := "kindRight", fn := fun _ => fun
  | [d1, d2] => { results := [.lit (.bool false)], args := [d1, d2] }
  | _ => none }
def KindRightWrongFalsely : Prop := kindRightRow.holds Try.pinned (OpenSpec.ofChange kindRightWrong)

/-- 'trommellaw13.EvalVals': WHATEVER THE INPUT: true; the input reads as it did. -/
def evalValsSpec : ChangeSpec := { name := "evalVals", fn := fun _ => fun
  | [d1, d2, d3, d4] => { results := [.lit (.bool true)], args := [d1, d2, d3, d4] }
  | _ => none }
def evalValsRow : OpenClaim := { program := "ytgmhmdmfnmlhmac", sum := "76c3916ead4316dea78ee478bb4d1a63693351ca702cd4b0b7579122ccf2d932", func := "trommel/trommellaw13.EvalVals", spec := "evalVals", inPlace := ["math/bits.Add64", "math/bits.Sub64"], unfollowed := true, recurses := true, loops := true, apart := false }
def EvalValsSaid : Prop := evalValsRow.holds Try.pinned (OpenSpec.ofChange evalValsSpec)

/-- ITS FALSE NEIGHBOUR: 'it returns false'. Refute it at one input. -/
def evalValsWrong : ChangeSpec := { name := "evalVals", fn := fun _ => fun
  | [d1, d2, d3, d4] => { results := [.lit (.bool false)], args := [d1, d2, d3, d4] }
  | _ => none }
def EvalValsWrongFalsely : Prop := evalValsRow.holds Try.pinned (OpenSpec.ofChange evalValsWrong)

/-- 'trommellaw13.EvalTruths': WHATEVER THE INPUT: true; the input reads as it did. -/
def evalTruthsSpec : ChangeSpec := { name := "evalTruths", fn := fun _ => fun
  | [d1, d2, d3] => { results := [.lit (.bool true)], args := [d1, d2, d3] }
  | _ => none }
def evalTruthsRow : OpenClaim := { program := "ytgmhmdmfnmlhmac", sum := "76c3916ead4316dea78ee478bb4d1a63693351ca702cd4b0b7579122ccf2d932", func := "trommel/trommellaw13.EvalTruths", spec := "evalTruths", inPlace := ["math/bits.Add64", "math/bits.Sub64"], unfollowed := true, recurses := true, loops := true, apart := false }
def EvalTruthsSaid : Prop := evalTruthsRow.holds Try.pinned (OpenSpec.ofChange evalTruthsSpec)

/-- ITS FALSE NEIGHBOUR: 'it returns false'. Refute it at one input. -/
def evalTruthsWrong : ChangeSpec := { name := "evalTruths", fn := fun _ => fun
  | [d1, d2, d3] => { results := [.lit (.bool false)], args := [d1, d2, d3] }
  | _ => none }
def EvalTruthsWrongFalsely : Prop := evalTruthsRow.holds Try.pinned (OpenSpec.ofChange evalTruthsWrong)

/-- 'trommellaw13.EvalHangs': WHATEVER THE INPUT: true; the input reads as it did. -/
def evalHangsSpec : ChangeSpec := { name := "evalHangs", fn := fun _ => fun
  | [d1, d2, d3, d4] => { results := [.lit (.bool true)], args := [d1, d2, d3, d4] }
  | _ => none }
def evalHangsRow : OpenClaim := { program := "ytgmhmdmfnmlhmac", sum := "76c3916ead4316dea78ee478bb4d1a63693351ca702cd4b0b7579122ccf2d932", func := "trommel/trommellaw13.EvalHangs", spec := "evalHangs", inPlace := ["math/bits.Add64", "math/bits.Sub64"], unfollowed := true, recurses := true, loops := true, apart := false }
def EvalHangsSaid : Prop := evalHangsRow.holds Try.pinned (OpenSpec.ofChange evalHangsSpec)

/-- ITS FALSE NEIGHBOUR: 'it returns false'. Refute it at one input. -/
def evalHangsWrong : ChangeSpec := { name := "evalHangs", fn := fun _ => fun
  | [d1, d2, d3, d4] => { results := [.lit (.bool false)], args := [d1, d2, d3, d4] }
  | _ => none }
def EvalHangsWrongFalsely : Prop := evalHangsRow.holds Try.pinned (OpenSpec.ofChange evalHangsWrong)

/-- 'trommellaw23.JtreeTells': WHATEVER THE INPUT: true; the input reads as it did. -/
def jtreeTellsSpec : ChangeSpec := { name := "jtreeTells", fn := fun _ => fun
  | [d1, d2, d3] => { results := [.lit (.bool true)], args := [d1, d2, d3] }
  | _ => none }
def jtreeTellsRow : OpenClaim := { program := "ytgmhmdmfnmlhmac", sum := "76c3916ead4316dea78ee478bb4d1a63693351ca702cd4b0b7579122ccf2d932", func := "trommel/trommellaw23.JtreeTells", spec := "jtreeTells", unfollowed := true, recurses := true, apart := false }
def JtreeTellsSaid : Prop := jtreeTellsRow.holds Try.pinned (OpenSpec.ofChange jtreeTellsSpec)

/-- ITS FALSE NEIGHBOUR: 'it returns false'. Refute it at one input. -/
def jtreeTellsWrong : ChangeSpec := { name := "jtreeTells", fn := fun _ => fun
  | [d1, d2, d3] => { results := [.lit (.bool false)], args := [d1, d2, d3] }
  | _ => none }
def JtreeTellsWrongFalsely : Prop := jtreeTellsRow.holds Try.pinned (OpenSpec.ofChange jtreeTellsWrong)

/- THE SECOND FORM. 'bulk': how many values and letters a reading holds, each counted each time it is reached (what is shared counts as often as it is met; a slice's spare places count too). A statement '..UptoSaid' is the law's where the arguments, and the package variables that the reading takes, are together of bulk at most 1048576: NARROWER than '..Said'. Prove '..Said' where nothing that the law and all that it calls make is longer than what came in: it says more and counts as full. Else prove '..UptoSaid'. A law counts once. -/
mutual
def uptoBulk {H : Type} : DataW H → Nat
  | .lit (.string bytes) => bytes.length + 1
  | .lit _ => 1
  | .nil => 1
  | .ptr d => uptoBulk d + 1
  | .slice elems spare => uptoBulkAll elems + uptoBulkAll spare + 1
  | .agg parts => uptoBulkAll parts + 1
  | .iface _ d => uptoBulk d + 1
  | .map entries => uptoBulkEntries entries + 1
  | .held _ => 1
def uptoBulkAll {H : Type} : List (DataW H) → Nat
  | [] => 0
  | d :: r => uptoBulk d + uptoBulkAll r
def uptoBulkEntries {H : Type} : List (Lit × DataW H) → Nat
  | [] => 0
  | x :: r => uptoBulkEntry x + uptoBulkEntries r
def uptoBulkEntry {H : Type} : Lit × DataW H → Nat
  | (.string bytes, d) => bytes.length + uptoBulk d + 1
  | (_, d) => uptoBulk d + 1
 end
def uptoSmall : (H : Type) → List (DataW H) → Bool := fun _ ds => decide (uptoBulkAll ds ≤ 1048576)
def OpenSpec.upto (s : _root_.Go.ChangeSpec) : _root_.Go.OpenSpec := { _root_.Go.OpenSpec.ofChange s with cond := some uptoSmall }

/-- 'trommellaw11.NameResolves', WHERE WHAT IT READS IS OF BULK AT MOST 1048576: true; the input reads as it did. -/
def nameResolvesUptoRow : OpenClaim := { program := "ytgmhmdmfnmlhmac", sum := "76c3916ead4316dea78ee478bb4d1a63693351ca702cd4b0b7579122ccf2d932", func := "trommel/trommellaw11.NameResolves", spec := "nameResolves", unfollowed := true, recurses := true, loops := true, apart := false, narrowed := true }
def NameResolvesUptoSaid : Prop := nameResolvesUptoRow.holds Try.pinned (OpenSpec.upto nameResolvesSpec)

/-- 'trommellaw11.NameTwice', WHERE WHAT IT READS IS OF BULK AT MOST 1048576: true; the input reads as it did. -/
def nameTwiceUptoRow : OpenClaim := { program := "ytgmhmdmfnmlhmac", sum := "76c3916ead4316dea78ee478bb4d1a63693351ca702cd4b0b7579122ccf2d932", func := "trommel/trommellaw11.NameTwice", spec := "nameTwice", unfollowed := true, recurses := true, loops := true, apart := false, narrowed := true }
def NameTwiceUptoSaid : Prop := nameTwiceUptoRow.holds Try.pinned (OpenSpec.upto nameTwiceSpec)

/-- 'trommellaw11.NameExprs', WHERE WHAT IT READS IS OF BULK AT MOST 1048576: true; the input reads as it did. -/
def nameExprsUptoRow : OpenClaim := { program := "ytgmhmdmfnmlhmac", sum := "76c3916ead4316dea78ee478bb4d1a63693351ca702cd4b0b7579122ccf2d932", func := "trommel/trommellaw11.NameExprs", spec := "nameExprs", unfollowed := true, recurses := true, loops := true, apart := false, narrowed := true }
def NameExprsUptoSaid : Prop := nameExprsUptoRow.holds Try.pinned (OpenSpec.upto nameExprsSpec)

/-- 'trommellaw12.KindRight', WHERE WHAT IT READS IS OF BULK AT MOST 1048576: true; the input reads as it did. -/
def kindRightUptoRow : OpenClaim := { program := "ytgmhmdmfnmlhmac", sum := "76c3916ead4316dea78ee478bb4d1a63693351ca702cd4b0b7579122ccf2d932", func := "trommel/trommellaw12.KindRight", spec := "kindRight", unfollowed := true, recurses := true, loops := true, apart := false, narrowed := true }
def KindRightUptoSaid : Prop := kindRightUptoRow.holds Try.pinned (OpenSpec.upto kindRightSpec)

/-- 'trommellaw13.EvalVals', WHERE WHAT IT READS IS OF BULK AT MOST 1048576: true; the input reads as it did. -/
def evalValsUptoRow : OpenClaim := { program := "ytgmhmdmfnmlhmac", sum := "76c3916ead4316dea78ee478bb4d1a63693351ca702cd4b0b7579122ccf2d932", func := "trommel/trommellaw13.EvalVals", spec := "evalVals", inPlace := ["math/bits.Add64", "math/bits.Sub64"], unfollowed := true, recurses := true, loops := true, apart := false, narrowed := true }
def EvalValsUptoSaid : Prop := evalValsUptoRow.holds Try.pinned (OpenSpec.upto evalValsSpec)

/-- 'trommellaw13.EvalTruths', WHERE WHAT IT READS IS OF BULK AT MOST 1048576: true; the input reads as it did. -/
def evalTruthsUptoRow : OpenClaim := { program := "ytgmhmdmfnmlhmac", sum := "76c3916ead4316dea78ee478bb4d1a63693351ca702cd4b0b7579122ccf2d932", func := "trommel/trommellaw13.EvalTruths", spec := "evalTruths", inPlace := ["math/bits.Add64", "math/bits.Sub64"], unfollowed := true, recurses := true, loops := true, apart := false, narrowed := true }
def EvalTruthsUptoSaid : Prop := evalTruthsUptoRow.holds Try.pinned (OpenSpec.upto evalTruthsSpec)

/-- 'trommellaw13.EvalHangs', WHERE WHAT IT READS IS OF BULK AT MOST 1048576: true; the input reads as it did. -/
def evalHangsUptoRow : OpenClaim := { program := "ytgmhmdmfnmlhmac", sum := "76c3916ead4316dea78ee478bb4d1a63693351ca702cd4b0b7579122ccf2d932", func := "trommel/trommellaw13.EvalHangs", spec := "evalHangs", inPlace := ["math/bits.Add64", "math/bits.Sub64"], unfollowed := true, recurses := true, loops := true, apart := false, narrowed := true }
def EvalHangsUptoSaid : Prop := evalHangsUptoRow.holds Try.pinned (OpenSpec.upto evalHangsSpec)

/-- 'trommellaw23.JtreeTells', WHERE WHAT IT READS IS OF BULK AT MOST 1048576: true; the input reads as it did. -/
def jtreeTellsUptoRow : OpenClaim := { program := "ytgmhmdmfnmlhmac", sum := "76c3916ead4316dea78ee478bb4d1a63693351ca702cd4b0b7579122ccf2d932", func := "trommel/trommellaw23.JtreeTells", spec := "jtreeTells", unfollowed := true, recurses := true, apart := false, narrowed := true }
def JtreeTellsUptoSaid : Prop := jtreeTellsUptoRow.holds Try.pinned (OpenSpec.upto jtreeTellsSpec)

end Rows
end Go.Proofs.Ytgmhmdmfnmlhmac
