/-
  NARROWER THAN 'FOR EVERY INPUT', by the rows' own cells (each row's printed sentence says how): NameResolves: loops · NameTwice: loops · NameExprs: loops · KindRight: loops · GraphOfs: loops.
  DERIVED. THE GIVEN ROWS OF THIS SEAT. 8 by the template 'for every input the law returns true; each argument reads behind the call as it read before'; 0 by the template 'total and deterministic' (their statements: YtaahlhhpmooliaaTotals.lean).
  GIVEN WITH THE SEED: the statements are not yours to turn. If you find one false, say at which input.
  Laid BY PROGRAM, IN A SANDBOX (cutbox-rows.mjs): the forced cells as the released guide's own fill.sh prints them over the translation a04ed51694dda472… (all of the seat's roots in one cut). By AI agents, Wed Nov 11 2026. No macro, syntax, notation, axiom, sorry.
-/
import Derived.Test.YtaahlhhpmooliaaChecked
import GoSem.Claim
import GoSem.ClaimJoined
import GoSem.ClaimMapViews
import Derived.JoinedTies
import Derived.KernelRfl
namespace Go.Proofs.Ytaahlhhpmooliaa
/- THE CELL 'sum', in the pinned program and in every row, IS THE sha256 OF THE DUMP (.gsa) THAT YtaahlhhpmooliaaProg.lean LOADS. Nothing in Lean hashes anything: it is a label: what it is worth is what the hold of that sum in a sandbox is worth. -/
noncomputable def Try.pinned : Pinned := { name := "ytaahlhhpmooliaa", sum := "a04ed51694dda47265c22e5a70c8653b9f43e0ea1700efa0a1a1c7fb8a631f5b", checked := Try.checked }
namespace Rows
def none {H : Type} : Left H := { results := [], args := [] }

/-- 'trommellaw11.NameResolves': WHATEVER THE INPUT: true; the input reads as it did. -/
def nameResolvesSpec : ChangeSpec := { name := "nameResolves", fn := fun _ => fun
  | [d1, d2] => { results := [.lit (.bool true)], args := [d1, d2] }
  | _ => none }
def nameResolvesRow : OpenClaim := { program := "ytaahlhhpmooliaa", sum := "a04ed51694dda47265c22e5a70c8653b9f43e0ea1700efa0a1a1c7fb8a631f5b", func := "trommel/trommellaw11.NameResolves", spec := "nameResolves", unfollowed := true, recurses := true, loops := true, apart := false }
def NameResolvesSaid : Prop := nameResolvesRow.holds Try.pinned (OpenSpec.ofChange nameResolvesSpec)

/-- ITS FALSE NEIGHBOUR: 'it returns false'. Refute it at one input. -/
def nameResolvesWrong : ChangeSpec := { name := "nameResolves", fn := fun _ => fun
  | [d1, d2] => { results := [.lit (.bool false)], args := [d1, d2] }
  | _ => none }
def NameResolvesWrongFalsely : Prop := nameResolvesRow.holds Try.pinned (OpenSpec.ofChange nameResolvesWrong)

/-- 'trommellaw11.NameTwice': WHATEVER THE INPUT: true; the input reads as it did. -/
def nameTwiceSpec : ChangeSpec := { name := "nameTwice", fn := fun _ => fun
  | [d1, d2] => { results := [.lit (.bool true)], args := [d1, d2] }
  | _ => none }
def nameTwiceRow : OpenClaim := { program := "ytaahlhhpmooliaa", sum := "a04ed51694dda47265c22e5a70c8653b9f43e0ea1700efa0a1a1c7fb8a631f5b", func := "trommel/trommellaw11.NameTwice", spec := "nameTwice", unfollowed := true, recurses := true, loops := true, apart := false }
def NameTwiceSaid : Prop := nameTwiceRow.holds Try.pinned (OpenSpec.ofChange nameTwiceSpec)

/-- ITS FALSE NEIGHBOUR: 'it returns false'. Refute it at one input. -/
def nameTwiceWrong : ChangeSpec := { name := "nameTwice", fn := fun _ => fun
  | [d1, d2] => { results := [.lit (.bool false)], args := [d1, d2] }
  | _ => none }
def NameTwiceWrongFalsely : Prop := nameTwiceRow.holds Try.pinned (OpenSpec.ofChange nameTwiceWrong)

/-- 'trommellaw11.NameExprs': WHATEVER THE INPUT: true; the input reads as it did. -/
def nameExprsSpec : ChangeSpec := { name := "nameExprs", fn := fun _ => fun
  | [d1, d2, d3, d4, d5] => { results := [.lit (.bool true)], args := [d1, d2, d3, d4, d5] }
  | _ => none }
def nameExprsRow : OpenClaim := { program := "ytaahlhhpmooliaa", sum := "a04ed51694dda47265c22e5a70c8653b9f43e0ea1700efa0a1a1c7fb8a631f5b", func := "trommel/trommellaw11.NameExprs", spec := "nameExprs", unfollowed := true, recurses := true, loops := true, apart := false }
def NameExprsSaid : Prop := nameExprsRow.holds Try.pinned (OpenSpec.ofChange nameExprsSpec)

/-- ITS FALSE NEIGHBOUR: 'it returns false'. Refute it at one input. -/
def nameExprsWrong : ChangeSpec := { name := "nameExprs", fn := fun _ => fun
  | [d1, d2, d3, d4, d5] => { results := [.lit (.bool false)], args := [d1, d2, d3, d4, d5] }
  | _ => none }
def NameExprsWrongFalsely : Prop := nameExprsRow.holds Try.pinned (OpenSpec.ofChange nameExprsWrong)

/-- 'trommellaw12.KindRight': WHATEVER THE INPUT: true; the input reads as it did. -/
def kindRightSpec : ChangeSpec := { name := "kindRight", fn := fun _ => fun
  | [d1, d2] => { results := [.lit (.bool true)], args := [d1, d2] }
  | _ => none }
def kindRightRow : OpenClaim := { program := "ytaahlhhpmooliaa", sum := "a04ed51694dda47265c22e5a70c8653b9f43e0ea1700efa0a1a1c7fb8a631f5b", func := "trommel/trommellaw12.KindRight", spec := "kindRight", unfollowed := true, recurses := true, loops := true, apart := false }
def KindRightSaid : Prop := kindRightRow.holds Try.pinned (OpenSpec.ofChange kindRightSpec)

/-- ITS FALSE NEIGHBOUR: 'it returns false'. Refute it at one input. -/
def kindRightWrong : ChangeSpec := { name := "kindRight", fn := fun _ => fun
  | [d1, d2] => { results := [.lit (.bool false)], args := [d1, d2] }
  | _ => none }
def KindRightWrongFalsely : Prop := kindRightRow.holds Try.pinned (OpenSpec.ofChange kindRightWrong)

/-- 'trommellaw23.JtreeTells': WHATEVER THE INPUT: true; the input reads as it did. -/
def jtreeTellsSpec : ChangeSpec := { name := "jtreeTells", fn := fun _ => fun
  | [d1, d2, d3] => { results := [.lit (.bool true)], args := [d1, d2, d3] }
  | _ => none }
def jtreeTellsRow : OpenClaim := { program := "ytaahlhhpmooliaa", sum := "a04ed51694dda47265c22e5a70c8653b9f43e0ea1700efa0a1a1c7fb8a631f5b", func := "trommel/trommellaw23.JtreeTells", spec := "jtreeTells", unfollowed := true, recurses := true, apart := false }
def JtreeTellsSaid : Prop := jtreeTellsRow.holds Try.pinned (OpenSpec.ofChange jtreeTellsSpec)

/-- ITS FALSE NEIGHBOUR: 'it returns false'. Refute it at one input. -/
def jtreeTellsWrong : ChangeSpec := { name := "jtreeTells", fn := fun _ => fun
  | [d1, d2, d3] => { results := [.lit (.bool false)], args := [d1, d2, d3] }
  | _ => none }
def JtreeTellsWrongFalsely : Prop := jtreeTellsRow.holds Try.pinned (OpenSpec.ofChange jtreeTellsWrong)

/-- 'trommellaw21.GraphTwo': WHATEVER THE INPUT: true; the input reads as it did. -/
def graphTwoSpec : ChangeSpec := { name := "graphTwo", fn := fun _ => fun
  | [d1, d2] => { results := [.lit (.bool true)], args := [d1, d2] }
  | _ => none }
def graphTwoRow : OpenClaim := { program := "ytaahlhhpmooliaa", sum := "a04ed51694dda47265c22e5a70c8653b9f43e0ea1700efa0a1a1c7fb8a631f5b", func := "trommel/trommellaw21.GraphTwo", spec := "graphTwo", unfollowed := true, recurses := true, apart := false }
def GraphTwoSaid : Prop := graphTwoRow.holds Try.pinned (OpenSpec.ofChange graphTwoSpec)

/-- ITS FALSE NEIGHBOUR: 'it returns false'. Refute it at one input. -/
def graphTwoWrong : ChangeSpec := { name := "graphTwo", fn := fun _ => fun
  | [d1, d2] => { results := [.lit (.bool false)], args := [d1, d2] }
  | _ => none }
def GraphTwoWrongFalsely : Prop := graphTwoRow.holds Try.pinned (OpenSpec.ofChange graphTwoWrong)

/-- 'trommellaw21.GraphTells': WHATEVER THE INPUT: true; the input reads as it did. -/
def graphTellsSpec : ChangeSpec := { name := "graphTells", fn := fun _ => fun
  | [d1, d2] => { results := [.lit (.bool true)], args := [d1, d2] }
  | _ => none }
def graphTellsRow : OpenClaim := { program := "ytaahlhhpmooliaa", sum := "a04ed51694dda47265c22e5a70c8653b9f43e0ea1700efa0a1a1c7fb8a631f5b", func := "trommel/trommellaw21.GraphTells", spec := "graphTells", unfollowed := true, recurses := true, apart := false }
def GraphTellsSaid : Prop := graphTellsRow.holds Try.pinned (OpenSpec.ofChange graphTellsSpec)

/-- ITS FALSE NEIGHBOUR: 'it returns false'. Refute it at one input. -/
def graphTellsWrong : ChangeSpec := { name := "graphTells", fn := fun _ => fun
  | [d1, d2] => { results := [.lit (.bool false)], args := [d1, d2] }
  | _ => none }
def GraphTellsWrongFalsely : Prop := graphTellsRow.holds Try.pinned (OpenSpec.ofChange graphTellsWrong)

/-- 'trommellaw21.GraphOfs': WHATEVER THE INPUT: true; the input reads as it did. -/
def graphOfsSpec : ChangeSpec := { name := "graphOfs", fn := fun _ => fun
  | [d] => { results := [.lit (.bool true)], args := [d] }
  | _ => none }
def graphOfsRow : OpenClaim := { program := "ytaahlhhpmooliaa", sum := "a04ed51694dda47265c22e5a70c8653b9f43e0ea1700efa0a1a1c7fb8a631f5b", func := "trommel/trommellaw21.GraphOfs", spec := "graphOfs", unfollowed := true, recurses := true, loops := true, apart := false }
def GraphOfsSaid : Prop := graphOfsRow.holds Try.pinned (OpenSpec.ofChange graphOfsSpec)

/-- ITS FALSE NEIGHBOUR: 'it returns false'. Refute it at one input. -/
def graphOfsWrong : ChangeSpec := { name := "graphOfs", fn := fun _ => fun
  | [d] => { results := [.lit (.bool false)], args := [d] }
  | _ => none }
def GraphOfsWrongFalsely : Prop := graphOfsRow.holds Try.pinned (OpenSpec.ofChange graphOfsWrong)

/- THE SECOND FORM. 'bulk': how many values and letters a reading holds, each counted each time it is reached (what is shared counts as often as it is met; a slice's spare places count too). A statement '..UptoSaid' is the law's where the arguments, and the package variables that the reading takes, are together of bulk at most 1048576: NARROWER than '..Said'. Prove '..Said' where nothing that the law and all that it calls make is longer than what came in: it says more and counts as full. Else prove '..UptoSaid'. A law counts once. -/
mutual
def uptoBulk {H : Type} : DataW H → Nat
  | .lit (.string bytes) => bytes.length + 1
  | .lit _ => 1
  | .nil => 1
  | .ptr d => uptoBulk d + 1
  | .slice elems spare => uptoBulkAll elems + uptoBulkAll spare + 1
  | .agg parts => uptoBulkAll parts + 1
  | .iface _ d => uptoBulk d + 1
  | .map entries => uptoBulkEntries entries + 1
  | .held _ => 1
def uptoBulkAll {H : Type} : List (DataW H) → Nat
  | [] => 0
  | d :: r => uptoBulk d + uptoBulkAll r
def uptoBulkEntries {H : Type} : List (Lit × DataW H) → Nat
  | [] => 0
  | x :: r => uptoBulkEntry x + uptoBulkEntries r
def uptoBulkEntry {H : Type} : Lit × DataW H → Nat
  | (.string bytes, d) => bytes.length + uptoBulk d + 1
  | (_, d) => uptoBulk d + 1
 end
def uptoSmall : (H : Type) → List (DataW H) → Bool := fun _ ds => decide (uptoBulkAll ds ≤ 1048576)
def OpenSpec.upto (s : _root_.Go.ChangeSpec) : _root_.Go.OpenSpec := { _root_.Go.OpenSpec.ofChange s with cond := some uptoSmall }

/-- 'trommellaw11.NameResolves', WHERE WHAT IT READS IS OF BULK AT MOST 1048576: true; the input reads as it did. -/
def nameResolvesUptoRow : OpenClaim := { program := "ytaahlhhpmooliaa", sum := "a04ed51694dda47265c22e5a70c8653b9f43e0ea1700efa0a1a1c7fb8a631f5b", func := "trommel/trommellaw11.NameResolves", spec := "nameResolves", unfollowed := true, recurses := true, loops := true, apart := false, narrowed := true }
def NameResolvesUptoSaid : Prop := nameResolvesUptoRow.holds Try.pinned (OpenSpec.upto nameResolvesSpec)

/-- 'trommellaw11.NameTwice', WHERE WHAT IT READS IS OF BULK AT MOST 1048576: true; the input reads as it did. -/
def nameTwiceUptoRow : OpenClaim := { program := "ytaahlhhpmooliaa", sum := "a04ed51694dda47265c22e5a70c8653b9f43e0ea1700efa0a1a1c7fb8a631f5b", func := "trommel/trommellaw11.NameTwice", spec := "nameTwice", unfollowed := true, recurses := true, loops := true, apart := false, narrowed := true }
def NameTwiceUptoSaid : Prop := nameTwiceUptoRow.holds Try.pinned (OpenSpec.upto nameTwiceSpec)

/-- 'trommellaw11.NameExprs', WHERE WHAT IT READS IS OF BULK AT MOST 1048576: true; the input reads as it did. -/
def nameExprsUptoRow : OpenClaim := { program := "ytaahlhhpmooliaa", sum := "a04ed51694dda47265c22e5a70c8653b9f43e0ea1700efa0a1a1c7fb8a631f5b", func := "trommel/trommellaw11.NameExprs", spec := "nameExprs", unfollowed := true, recurses := true, loops := true, apart := false, narrowed := true }
def NameExprsUptoSaid : Prop := nameExprsUptoRow.holds Try.pinned (OpenSpec.upto nameExprsSpec)

/-- 'trommellaw12.KindRight', WHERE WHAT IT READS IS OF BULK AT MOST 1048576: true; the input reads as it did. -/
def kindRightUptoRow : OpenClaim := { program := "ytaahlhhpmooliaa", sum := "a04ed51694dda47265c22e5a70c8653b9f43e0ea1700efa0a1a1c7fb8a631f5b", func := "trommel/trommellaw12.KindRight", spec := "kindRight", unfollowed := true, recurses := true, loops := true, apart := false, narrowed := true }
def KindRightUptoSaid : Prop := kindRightUptoRow.holds Try.pinned (OpenSpec.upto kindRightSpec)

/-- 'trommellaw23.JtreeTells', WHERE WHAT IT READS IS OF BULK AT MOST 1048576: true; the input reads as it did. -/
def jtreeTellsUptoRow : OpenClaim := { program := "ytaahlhhpmooliaa", sum := "a04ed51694dda47265c22e5a70c8653b9f43e0ea1700efa0a1a1c7fb8a631f5b", func := "trommel/trommellaw23.JtreeTells", spec := "jtreeTells", unfollowed := true, recurses := true, apart := false, narrowed := true }
def JtreeTellsUptoSaid : Prop := jtreeTellsUptoRow.holds Try.pinned (OpenSpec.upto jtreeTellsSpec)

/-- 'trommellaw21.GraphTwo', WHERE WHAT IT READS IS OF BULK AT MOST 1048576: true; the input reads as it did. -/
def graphTwoUptoRow : OpenClaim := { program := "ytaahlhhpmooliaa", sum := "a04ed51694dda47265c22e5a70c8653b9f43e0ea1700efa0a1a1c7fb8a631f5b", func := "trommel/trommellaw21.GraphTwo", spec := "graphTwo", unfollowed := true, recurses := true, apart := false, narrowed := true }
def GraphTwoUptoSaid : Prop := graphTwoUptoRow.holds Try.pinned (OpenSpec.upto graphTwoSpec)

/-- 'trommellaw21.GraphTells', WHERE WHAT IT READS IS OF BULK AT MOST 1048576: true; the input reads as it did. -/
def graphTellsUptoRow : OpenClaim := { program := "ytaahlhhpmooliaa", sum := "a04ed51694dda47265c22e5a70c8653b9f43e0ea1700efa0a1a1c7fb8a631f5b", func := "trommel/trommellaw21.GraphTells", spec := "graphTells", unfollowed := true, recurses := true, apart := false, narrowed := true }
def GraphTellsUptoSaid : Prop := graphTellsUptoRow.holds Try.pinned (OpenSpec.upto graphTellsSpec)

/-- 'trommellaw21.GraphOfs', WHERE WHAT IT READS IS OF BULK AT MOST 1048576: true; the input reads as it did. -/
def graphOfsUptoRow : OpenClaim := { program := "ytaahlhhpmooliaa", sum := "a04ed51694dda47265c22e5a70c8653b9f43e0ea1700efa0a1a1c7fb8a631f5b", func := "trommel/trommellaw21.GraphOfs", spec := "graphOfs", unfollowed := true, recurses := true, loops := true, apart := false, narrowed := true }
def GraphOfsUptoSaid : Prop := graphOfsUptoRow.holds Try.pinned (OpenSpec.upto graphOfsSpec)

end Rows
end Go.Proofs.Ytaahlhhpmooliaa
