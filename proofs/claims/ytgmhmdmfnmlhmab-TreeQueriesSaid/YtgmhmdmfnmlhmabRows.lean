/-
  NARROWER THAN 'FOR EVERY INPUT', by the rows' own cells (each row's printed sentence says how): ReadyTells: loops · ReadyBounds: loops · TreeSames: loops · TreeTells: loops · TreeQueries: loops.
  DERIVED. THE GIVEN ROWS OF THIS SEAT. 12 by the template 'for every input the law returns true; each argument reads behind the call as it read before'; 0 by the template 'total and deterministic' (their statements: YtgmhmdmfnmlhmabTotals.lean).
  GIVEN WITH THE SEED: the statements are not yours to turn. If you find one false, say at which input.
  Laid BY PROGRAM, IN A SANDBOX (cutbox-rows.mjs): the forced cells as the released guide's own fill.sh prints them over the translation 17f9e65271978cbf… (all of the seat's roots in one cut). By AI agents, Wed Nov 11 2026. No macro, syntax, notation, axiom, sorry.
-/
import Derived.Test.YtgmhmdmfnmlhmabChecked
import GoSem.Claim
import GoSem.ClaimJoined
import GoSem.ClaimMapViews
import Derived.JoinedTies
import Derived.KernelRfl
namespace Go.Proofs.Ytgmhmdmfnmlhmab
/- THE CELL 'sum', in the pinned program and in every row, IS THE sha256 OF THE DUMP (.gsa) THAT YtgmhmdmfnmlhmabProg.lean LOADS. Nothing in Lean hashes anything: it is a label: what it is worth is what the hold of that sum in a sandbox is worth. -/
noncomputable def Try.pinned : Pinned := { name := "ytgmhmdmfnmlhmab", sum := "17f9e65271978cbfea76882b198d8c2c1600e87ac17ae81fdfedb72ea8331826", checked := Try.checked }
namespace Rows
def none {H : Type} : Left H := { results := [], args := [] }

/-- 'trommellaw06.UfJoins': WHATEVER THE INPUT: true; the input reads as it did. -/
def ufJoinsSpec : ChangeSpec := { name := "ufJoins", fn := fun _ => fun
  | [d1, d2, d3, d4] => { results := [.lit (.bool true)], args := [d1, d2, d3, d4] }
  | _ => none }
def ufJoinsRow : OpenClaim := { program := "ytgmhmdmfnmlhmab", sum := "17f9e65271978cbfea76882b198d8c2c1600e87ac17ae81fdfedb72ea8331826", func := "trommel/trommellaw06.UfJoins", spec := "ufJoins", apart := false }
def UfJoinsSaid : Prop := ufJoinsRow.holds Try.pinned (OpenSpec.ofChange ufJoinsSpec)

/-- ITS FALSE NEIGHBOUR: 'it returns false'. Refute it at one input. -/
def ufJoinsWrong : ChangeSpec := { name := "ufJoins", fn := fun _ => fun
  | [d1, d2, d3, d4] => { results := [.lit (.bool false)], args := [d1, d2, d3, d4] }
  | _ => none }
def UfJoinsWrongFalsely : Prop := ufJoinsRow.holds Try.pinned (OpenSpec.ofChange ufJoinsWrong)

/-- 'trommellaw06.UfOrders': WHATEVER THE INPUT: true; the input reads as it did. -/
def ufOrdersSpec : ChangeSpec := { name := "ufOrders", fn := fun _ => fun
  | [d1, d2, d3, d4, d5] => { results := [.lit (.bool true)], args := [d1, d2, d3, d4, d5] }
  | _ => none }
def ufOrdersRow : OpenClaim := { program := "ytgmhmdmfnmlhmab", sum := "17f9e65271978cbfea76882b198d8c2c1600e87ac17ae81fdfedb72ea8331826", func := "trommel/trommellaw06.UfOrders", spec := "ufOrders", apart := false }
def UfOrdersSaid : Prop := ufOrdersRow.holds Try.pinned (OpenSpec.ofChange ufOrdersSpec)

/-- ITS FALSE NEIGHBOUR: 'it returns false'. Refute it at one input. -/
def ufOrdersWrong : ChangeSpec := { name := "ufOrders", fn := fun _ => fun
  | [d1, d2, d3, d4, d5] => { results := [.lit (.bool false)], args := [d1, d2, d3, d4, d5] }
  | _ => none }
def UfOrdersWrongFalsely : Prop := ufOrdersRow.holds Try.pinned (OpenSpec.ofChange ufOrdersWrong)

/-- 'trommellaw06.UfAlls': WHATEVER THE INPUT: true; the input reads as it did. -/
def ufAllsSpec : ChangeSpec := { name := "ufAlls", fn := fun _ => fun
  | [d1, d2, d3] => { results := [.lit (.bool true)], args := [d1, d2, d3] }
  | _ => none }
def ufAllsRow : OpenClaim := { program := "ytgmhmdmfnmlhmab", sum := "17f9e65271978cbfea76882b198d8c2c1600e87ac17ae81fdfedb72ea8331826", func := "trommel/trommellaw06.UfAlls", spec := "ufAlls", apart := false }
def UfAllsSaid : Prop := ufAllsRow.holds Try.pinned (OpenSpec.ofChange ufAllsSpec)

/-- ITS FALSE NEIGHBOUR: 'it returns false'. Refute it at one input. -/
def ufAllsWrong : ChangeSpec := { name := "ufAlls", fn := fun _ => fun
  | [d1, d2, d3] => { results := [.lit (.bool false)], args := [d1, d2, d3] }
  | _ => none }
def UfAllsWrongFalsely : Prop := ufAllsRow.holds Try.pinned (OpenSpec.ofChange ufAllsWrong)

/-- 'trommellaw19.SpanKeeps': WHATEVER THE INPUT: true; the input reads as it did. -/
def spanKeepsSpec : ChangeSpec := { name := "spanKeeps", fn := fun _ => fun
  | [d1, d2] => { results := [.lit (.bool true)], args := [d1, d2] }
  | _ => none }
def spanKeepsRow : OpenClaim := { program := "ytgmhmdmfnmlhmab", sum := "17f9e65271978cbfea76882b198d8c2c1600e87ac17ae81fdfedb72ea8331826", func := "trommel/trommellaw19.SpanKeeps", spec := "spanKeeps", apart := false }
def SpanKeepsSaid : Prop := spanKeepsRow.holds Try.pinned (OpenSpec.ofChange spanKeepsSpec)

/-- ITS FALSE NEIGHBOUR: 'it returns false'. Refute it at one input. -/
def spanKeepsWrong : ChangeSpec := { name := "spanKeeps", fn := fun _ => fun
  | [d1, d2] => { results := [.lit (.bool false)], args := [d1, d2] }
  | _ => none }
def SpanKeepsWrongFalsely : Prop := spanKeepsRow.holds Try.pinned (OpenSpec.ofChange spanKeepsWrong)

/-- 'trommellaw19.SpanTells': WHATEVER THE INPUT: true; the input reads as it did. -/
def spanTellsSpec : ChangeSpec := { name := "spanTells", fn := fun _ => fun
  | [d1, d2, d3] => { results := [.lit (.bool true)], args := [d1, d2, d3] }
  | _ => none }
def spanTellsRow : OpenClaim := { program := "ytgmhmdmfnmlhmab", sum := "17f9e65271978cbfea76882b198d8c2c1600e87ac17ae81fdfedb72ea8331826", func := "trommel/trommellaw19.SpanTells", spec := "spanTells", apart := false }
def SpanTellsSaid : Prop := spanTellsRow.holds Try.pinned (OpenSpec.ofChange spanTellsSpec)

/-- ITS FALSE NEIGHBOUR: 'it returns false'. Refute it at one input. -/
def spanTellsWrong : ChangeSpec := { name := "spanTells", fn := fun _ => fun
  | [d1, d2, d3] => { results := [.lit (.bool false)], args := [d1, d2, d3] }
  | _ => none }
def SpanTellsWrongFalsely : Prop := spanTellsRow.holds Try.pinned (OpenSpec.ofChange spanTellsWrong)

/-- 'trommellaw33.ReadyTells': WHATEVER THE INPUT: true; the input reads as it did. -/
def readyTellsSpec : ChangeSpec := { name := "readyTells", fn := fun _ => fun
  | [d1, d2, d3] => { results := [.lit (.bool true)], args := [d1, d2, d3] }
  | _ => none }
def readyTellsRow : OpenClaim := { program := "ytgmhmdmfnmlhmab", sum := "17f9e65271978cbfea76882b198d8c2c1600e87ac17ae81fdfedb72ea8331826", func := "trommel/trommellaw33.ReadyTells", spec := "readyTells", unfollowed := true, recurses := true, loops := true, apart := false }
def ReadyTellsSaid : Prop := readyTellsRow.holds Try.pinned (OpenSpec.ofChange readyTellsSpec)

/-- ITS FALSE NEIGHBOUR: 'it returns false'. Refute it at one input. -/
def readyTellsWrong : ChangeSpec := { name := "readyTells", fn := fun _ => fun
  | [d1, d2, d3] => { results := [.lit (.bool false)], args := [d1, d2, d3] }
  | _ => none }
def ReadyTellsWrongFalsely : Prop := readyTellsRow.holds Try.pinned (OpenSpec.ofChange readyTellsWrong)

/-- 'trommellaw33.ReadyBounds': WHATEVER THE INPUT: true; the input reads as it did. -/
def readyBoundsSpec : ChangeSpec := { name := "readyBounds", fn := fun _ => fun
  | [d1, d2, d3, d4] => { results := [.lit (.bool true)], args := [d1, d2, d3, d4] }
  | _ => none }
def readyBoundsRow : OpenClaim := { program := "ytgmhmdmfnmlhmab", sum := "17f9e65271978cbfea76882b198d8c2c1600e87ac17ae81fdfedb72ea8331826", func := "trommel/trommellaw33.ReadyBounds", spec := "readyBounds", unfollowed := true, recurses := true, loops := true, apart := false }
def ReadyBoundsSaid : Prop := readyBoundsRow.holds Try.pinned (OpenSpec.ofChange readyBoundsSpec)

/-- ITS FALSE NEIGHBOUR: 'it returns false'. Refute it at one input. -/
def readyBoundsWrong : ChangeSpec := { name := "readyBounds", fn := fun _ => fun
  | [d1, d2, d3, d4] => { results := [.lit (.bool false)], args := [d1, d2, d3, d4] }
  | _ => none }
def ReadyBoundsWrongFalsely : Prop := readyBoundsRow.holds Try.pinned (OpenSpec.ofChange readyBoundsWrong)

/-- 'trommellaw08.TreeSames': WHATEVER THE INPUT: true; the input reads as it did. -/
def treeSamesSpec : ChangeSpec := { name := "treeSames", fn := fun _ => fun
  | [d1, d2] => { results := [.lit (.bool true)], args := [d1, d2] }
  | _ => none }
def treeSamesRow : OpenClaim := { program := "ytgmhmdmfnmlhmab", sum := "17f9e65271978cbfea76882b198d8c2c1600e87ac17ae81fdfedb72ea8331826", func := "trommel/trommellaw08.TreeSames", spec := "treeSames", unfollowed := true, recurses := true, loops := true, apart := false }
def TreeSamesSaid : Prop := treeSamesRow.holds Try.pinned (OpenSpec.ofChange treeSamesSpec)

/-- ITS FALSE NEIGHBOUR: 'it returns false'. Refute it at one input. -/
def treeSamesWrong : ChangeSpec := { name := "treeSames", fn := fun _ => fun
  | [d1, d2] => { results := [.lit (.bool false)], args := [d1, d2] }
  | _ => none }
def TreeSamesWrongFalsely : Prop := treeSamesRow.holds Try.pinned (OpenSpec.ofChange treeSamesWrong)

/-- 'trommellaw08.TreeTells': WHATEVER THE INPUT: true; the input reads as it did. -/
def treeTellsSpec : ChangeSpec := { name := "treeTells", fn := fun _ => fun
  | [d1, d2] => { results := [.lit (.bool true)], args := [d1, d2] }
  | _ => none }
def treeTellsRow : OpenClaim := { program := "ytgmhmdmfnmlhmab", sum := "17f9e65271978cbfea76882b198d8c2c1600e87ac17ae81fdfedb72ea8331826", func := "trommel/trommellaw08.TreeTells", spec := "treeTells", unfollowed := true, recurses := true, loops := true, apart := false }
def TreeTellsSaid : Prop := treeTellsRow.holds Try.pinned (OpenSpec.ofChange treeTellsSpec)

/-- ITS FALSE NEIGHBOUR: 'it returns false'. Refute it at one input. -/
def treeTellsWrong : ChangeSpec := { name := "treeTells", fn := fun _ => fun
  | [d1, d2] => { results := [.lit (.bool false)], args := [d1, d2] }
  | _ => none }
def TreeTellsWrongFalsely : Prop := treeTellsRow.holds Try.pinned (OpenSpec.ofChange treeTellsWrong)

/-- 'trommellaw08.TreeQueries': WHATEVER THE INPUT: true; the input reads as it did. -/
def treeQueriesSpec : ChangeSpec := { name := "treeQueries", fn := fun _ => fun
  | [d1, d2, d3, d4, d5, d6] => { results := [.lit (.bool true)], args := [d1, d2, d3, d4, d5, d6] }
  | _ => none }
def treeQueriesRow : OpenClaim := { program := "ytgmhmdmfnmlhmab", sum := "17f9e65271978cbfea76882b198d8c2c1600e87ac17ae81fdfedb72ea8331826", func := "trommel/trommellaw08.TreeQueries", spec := "treeQueries", unfollowed := true, recurses := true, loops := true, apart := false }
def TreeQueriesSaid : Prop := treeQueriesRow.holds Try.pinned (OpenSpec.ofChange treeQueriesSpec)

/-- ITS FALSE NEIGHBOUR: 'it returns false'. Refute it at one input. -/
def treeQueriesWrong : ChangeSpec := { name := "treeQueries", fn := fun _ => fun
  | [d1, d2, d3, d4, d5, d6] => { results := [.lit (.bool false)], args := [d1, d2, d3, d4, d5, d6] }
  | _ => none }
def TreeQueriesWrongFalsely : Prop := treeQueriesRow.holds Try.pinned (OpenSpec.ofChange treeQueriesWrong)

/-- 'trommellaw14.AggOfs': WHATEVER THE INPUT: true; the input reads as it did. -/
def aggOfsSpec : ChangeSpec := { name := "aggOfs", fn := fun _ => fun
  | [d1, d2] => { results := [.lit (.bool true)], args := [d1, d2] }
  | _ => none }
def aggOfsRow : OpenClaim := { program := "ytgmhmdmfnmlhmab", sum := "17f9e65271978cbfea76882b198d8c2c1600e87ac17ae81fdfedb72ea8331826", func := "trommel/trommellaw14.AggOfs", spec := "aggOfs", inPlace := ["math/bits.Add64"], unfollowed := true, recurses := true, apart := false }
def AggOfsSaid : Prop := aggOfsRow.holds Try.pinned (OpenSpec.ofChange aggOfsSpec)

/-- ITS FALSE NEIGHBOUR: 'it returns false'. Refute it at one input. -/
def aggOfsWrong : ChangeSpec := { name := "aggOfs", fn := fun _ => fun
  | [d1, d2] => { results := [.lit (.bool false)], args := [d1, d2] }
  | _ => none }
def AggOfsWrongFalsely : Prop := aggOfsRow.holds Try.pinned (OpenSpec.ofChange aggOfsWrong)

/-- 'trommellaw14.AggMerges': WHATEVER THE INPUT: true; the input reads as it did. -/
def aggMergesSpec : ChangeSpec := { name := "aggMerges", fn := fun _ => fun
  | [d1, d2, d3, d4] => { results := [.lit (.bool true)], args := [d1, d2, d3, d4] }
  | _ => none }
def aggMergesRow : OpenClaim := { program := "ytgmhmdmfnmlhmab", sum := "17f9e65271978cbfea76882b198d8c2c1600e87ac17ae81fdfedb72ea8331826", func := "trommel/trommellaw14.AggMerges", spec := "aggMerges", inPlace := ["math/bits.Add64"], unfollowed := true, recurses := true, apart := false }
def AggMergesSaid : Prop := aggMergesRow.holds Try.pinned (OpenSpec.ofChange aggMergesSpec)

/-- ITS FALSE NEIGHBOUR: 'it returns false'. Refute it at one input. -/
def aggMergesWrong : ChangeSpec := { name := "aggMerges", fn := fun _ => fun
  | [d1, d2, d3, d4] => { results := [.lit (.bool false)], args := [d1, d2, d3, d4] }
  | _ => none }
def AggMergesWrongFalsely : Prop := aggMergesRow.holds Try.pinned (OpenSpec.ofChange aggMergesWrong)

/- THE SECOND FORM. 'bulk': how many values and letters a reading holds, each counted each time it is reached (what is shared counts as often as it is met; a slice's spare places count too). A statement '..UptoSaid' is the law's where the arguments, and the package variables that the reading takes, are together of bulk at most 1048576: NARROWER than '..Said'. Prove '..Said' where nothing that the law and all that it calls make is longer than what came in: it says more and counts as full. Else prove '..UptoSaid'. A law counts once. -/
mutual
def uptoBulk {H : Type} : DataW H → Nat
  | .lit (.string bytes) => bytes.length + 1
  | .lit _ => 1
  | .nil => 1
  | .ptr d => uptoBulk d + 1
  | .slice elems spare => uptoBulkAll elems + uptoBulkAll spare + 1
  | .agg parts => uptoBulkAll parts + 1
  | .iface _ d => uptoBulk d + 1
  | .map entries => uptoBulkEntries entries + 1
  | .held _ => 1
def uptoBulkAll {H : Type} : List (DataW H) → Nat
  | [] => 0
  | d :: r => uptoBulk d + uptoBulkAll r
def uptoBulkEntries {H : Type} : List (Lit × DataW H) → Nat
  | [] => 0
  | x :: r => uptoBulkEntry x + uptoBulkEntries r
def uptoBulkEntry {H : Type} : Lit × DataW H → Nat
  | (.string bytes, d) => bytes.length + uptoBulk d + 1
  | (_, d) => uptoBulk d + 1
 end
def uptoSmall : (H : Type) → List (DataW H) → Bool := fun _ ds => decide (uptoBulkAll ds ≤ 1048576)
def OpenSpec.upto (s : _root_.Go.ChangeSpec) : _root_.Go.OpenSpec := { _root_.Go.OpenSpec.ofChange s with cond := some uptoSmall }

/-- 'trommellaw06.UfJoins', WHERE WHAT IT READS IS OF BULK AT MOST 1048576: true; the input reads as it did. -/
def ufJoinsUptoRow : OpenClaim := { program := "ytgmhmdmfnmlhmab", sum := "17f9e65271978cbfea76882b198d8c2c1600e87ac17ae81fdfedb72ea8331826", func := "trommel/trommellaw06.UfJoins", spec := "ufJoins", apart := false, narrowed := true }
def UfJoinsUptoSaid : Prop := ufJoinsUptoRow.holds Try.pinned (OpenSpec.upto ufJoinsSpec)

/-- 'trommellaw06.UfOrders', WHERE WHAT IT READS IS OF BULK AT MOST 1048576: true; the input reads as it did. -/
def ufOrdersUptoRow : OpenClaim := { program := "ytgmhmdmfnmlhmab", sum := "17f9e65271978cbfea76882b198d8c2c1600e87ac17ae81fdfedb72ea8331826", func := "trommel/trommellaw06.UfOrders", spec := "ufOrders", apart := false, narrowed := true }
def UfOrdersUptoSaid : Prop := ufOrdersUptoRow.holds Try.pinned (OpenSpec.upto ufOrdersSpec)

/-- 'trommellaw06.UfAlls', WHERE WHAT IT READS IS OF BULK AT MOST 1048576: true; the input reads as it did. -/
def ufAllsUptoRow : OpenClaim := { program := "ytgmhmdmfnmlhmab", sum := "17f9e65271978cbfea76882b198d8c2c1600e87ac17ae81fdfedb72ea8331826", func := "trommel/trommellaw06.UfAlls", spec := "ufAlls", apart := false, narrowed := true }
def UfAllsUptoSaid : Prop := ufAllsUptoRow.holds Try.pinned (OpenSpec.upto ufAllsSpec)

/-- 'trommellaw19.SpanKeeps', WHERE WHAT IT READS IS OF BULK AT MOST 1048576: true; the input reads as it did. -/
def spanKeepsUptoRow : OpenClaim := { program := "ytgmhmdmfnmlhmab", sum := "17f9e65271978cbfea76882b198d8c2c1600e87ac17ae81fdfedb72ea8331826", func := "trommel/trommellaw19.SpanKeeps", spec := "spanKeeps", apart := false, narrowed := true }
def SpanKeepsUptoSaid : Prop := spanKeepsUptoRow.holds Try.pinned (OpenSpec.upto spanKeepsSpec)

/-- 'trommellaw19.SpanTells', WHERE WHAT IT READS IS OF BULK AT MOST 1048576: true; the input reads as it did. -/
def spanTellsUptoRow : OpenClaim := { program := "ytgmhmdmfnmlhmab", sum := "17f9e65271978cbfea76882b198d8c2c1600e87ac17ae81fdfedb72ea8331826", func := "trommel/trommellaw19.SpanTells", spec := "spanTells", apart := false, narrowed := true }
def SpanTellsUptoSaid : Prop := spanTellsUptoRow.holds Try.pinned (OpenSpec.upto spanTellsSpec)

/-- 'trommellaw33.ReadyTells', WHERE WHAT IT READS IS OF BULK AT MOST 1048576: true; the input reads as it did. -/
def readyTellsUptoRow : OpenClaim := { program := "ytgmhmdmfnmlhmab", sum := "17f9e65271978cbfea76882b198d8c2c1600e87ac17ae81fdfedb72ea8331826", func := "trommel/trommellaw33.ReadyTells", spec := "readyTells", unfollowed := true, recurses := true, loops := true, apart := false, narrowed := true }
def ReadyTellsUptoSaid : Prop := readyTellsUptoRow.holds Try.pinned (OpenSpec.upto readyTellsSpec)

/-- 'trommellaw33.ReadyBounds', WHERE WHAT IT READS IS OF BULK AT MOST 1048576: true; the input reads as it did. -/
def readyBoundsUptoRow : OpenClaim := { program := "ytgmhmdmfnmlhmab", sum := "17f9e65271978cbfea76882b198d8c2c1600e87ac17ae81fdfedb72ea8331826", func := "trommel/trommellaw33.ReadyBounds", spec := "readyBounds", unfollowed := true, recurses := true, loops := true, apart := false, narrowed := true }
def ReadyBoundsUptoSaid : Prop := readyBoundsUptoRow.holds Try.pinned (OpenSpec.upto readyBoundsSpec)

/-- 'trommellaw08.TreeSames', WHERE WHAT IT READS IS OF BULK AT MOST 1048576: true; the input reads as it did. -/
def treeSamesUptoRow : OpenClaim := { program := "ytgmhmdmfnmlhmab", sum := "17f9e65271978cbfea76882b198d8c2c1600e87ac17ae81fdfedb72ea8331826", func := "trommel/trommellaw08.TreeSames", spec := "treeSames", unfollowed := true, recurses := true, loops := true, apart := false, narrowed := true }
def TreeSamesUptoSaid : Prop := treeSamesUptoRow.holds Try.pinned (OpenSpec.upto treeSamesSpec)

/-- 'trommellaw08.TreeTells', WHERE WHAT IT READS IS OF BULK AT MOST 1048576: true; the input reads as it did. -/
def treeTellsUptoRow : OpenClaim := { program := "ytgmhmdmfnmlhmab", sum := "17f9e65271978cbfea76882b198d8c2c1600e87ac17ae81fdfedb72ea8331826", func := "trommel/trommellaw08.TreeTells", spec := "treeTells", unfollowed := true, recurses := true, loops := true, apart := false, narrowed := true }
def TreeTellsUptoSaid : Prop := treeTellsUptoRow.holds Try.pinned (OpenSpec.upto treeTellsSpec)

/-- 'trommellaw08.TreeQueries', WHERE WHAT IT READS IS OF BULK AT MOST 1048576: true; the input reads as it did. -/
def treeQueriesUptoRow : OpenClaim := { program := "ytgmhmdmfnmlhmab", sum := "17f9e65271978cbfea76882b198d8c2c1600e87ac17ae81fdfedb72ea8331826", func := "trommel/trommellaw08.TreeQueries", spec := "treeQueries", unfollowed := true, recurses := true, loops := true, apart := false, narrowed := true }
def TreeQueriesUptoSaid : Prop := treeQueriesUptoRow.holds Try.pinned (OpenSpec.upto treeQueriesSpec)

/-- 'trommellaw14.AggOfs', WHERE WHAT IT READS IS OF BULK AT MOST 1048576: true; the input reads as it did. -/
def aggOfsUptoRow : OpenClaim := { program := "ytgmhmdmfnmlhmab", sum := "17f9e65271978cbfea76882b198d8c2c1600e87ac17ae81fdfedb72ea8331826", func := "trommel/trommellaw14.AggOfs", spec := "aggOfs", inPlace := ["math/bits.Add64"], unfollowed := true, recurses := true, apart := false, narrowed := true }
def AggOfsUptoSaid : Prop := aggOfsUptoRow.holds Try.pinned (OpenSpec.upto aggOfsSpec)

/-- 'trommellaw14.AggMerges', WHERE WHAT IT READS IS OF BULK AT MOST 1048576: true; the input reads as it did. -/
def aggMergesUptoRow : OpenClaim := { program := "ytgmhmdmfnmlhmab", sum := "17f9e65271978cbfea76882b198d8c2c1600e87ac17ae81fdfedb72ea8331826", func := "trommel/trommellaw14.AggMerges", spec := "aggMerges", inPlace := ["math/bits.Add64"], unfollowed := true, recurses := true, apart := false, narrowed := true }
def AggMergesUptoSaid : Prop := aggMergesUptoRow.holds Try.pinned (OpenSpec.upto aggMergesSpec)

end Rows
end Go.Proofs.Ytgmhmdmfnmlhmab
