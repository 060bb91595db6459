/-
  NARROWER THAN 'FOR EVERY INPUT', by the rows' own cells (each row's printed sentence says how): GraphOfs: loops · NormOfs: loops · NormClasses: loops.
  DERIVED. THE GIVEN ROWS OF THIS SEAT. 12 by the template 'for every input the law returns true; each argument reads behind the call as it read before'; 0 by the template 'total and deterministic' (their statements: YtahpoodcmeoabaaTotals.lean).
  GIVEN WITH THE SEED: the statements are not yours to turn. If you find one false, say at which input.
  Laid BY PROGRAM, IN A SANDBOX (cutbox-rows.mjs): the forced cells as the released guide's own fill.sh prints them over the translation cb95c9d8a26c7998… (all of the seat's roots in one cut). By AI agents, Wed Nov 11 2026. No macro, syntax, notation, axiom, sorry.
-/
import Derived.Test.YtahpoodcmeoabaaChecked
import GoSem.Claim
import GoSem.ClaimJoined
import GoSem.ClaimMapViews
import Derived.JoinedTies
import Derived.KernelRfl
namespace Go.Proofs.Ytahpoodcmeoabaa
/- THE CELL 'sum', in the pinned program and in every row, IS THE sha256 OF THE DUMP (.gsa) THAT YtahpoodcmeoabaaProg.lean LOADS. Nothing in Lean hashes anything: it is a label: what it is worth is what the hold of that sum in a sandbox is worth. -/
noncomputable def Try.pinned : Pinned := { name := "ytahpoodcmeoabaa", sum := "cb95c9d8a26c7998d9103890ba46f6a4067028e52de3224271eaf90c1a76afe9", checked := Try.checked }
namespace Rows
def none {H : Type} : Left H := { results := [], args := [] }

/-- 'trommellaw23.JtreeTells': WHATEVER THE INPUT: true; the input reads as it did. -/
def jtreeTellsSpec : ChangeSpec := { name := "jtreeTells", fn := fun _ => fun
  | [d1, d2, d3] => { results := [.lit (.bool true)], args := [d1, d2, d3] }
  | _ => none }
def jtreeTellsRow : OpenClaim := { program := "ytahpoodcmeoabaa", sum := "cb95c9d8a26c7998d9103890ba46f6a4067028e52de3224271eaf90c1a76afe9", func := "trommel/trommellaw23.JtreeTells", spec := "jtreeTells", unfollowed := true, recurses := true, plainKeys := false, apart := false }
def JtreeTellsSaid : Prop := jtreeTellsRow.holds Try.pinned (OpenSpec.ofChange jtreeTellsSpec)

/-- ITS FALSE NEIGHBOUR: 'it returns false'. Refute it at one input. -/
def jtreeTellsWrong : ChangeSpec := { name := "jtreeTells", fn := fun _ => fun
  | [d1, d2, d3] => { results := [.lit (.bool false)], args := [d1, d2, d3] }
  | _ => none }
def JtreeTellsWrongFalsely : Prop := jtreeTellsRow.holds Try.pinned (OpenSpec.ofChange jtreeTellsWrong)

/-- 'trommellaw23.JtreeRoots': WHATEVER THE INPUT: true; the input reads as it did. -/
def jtreeRootsSpec : ChangeSpec := { name := "jtreeRoots", fn := fun _ => fun
  | [d1, d2, d3] => { results := [.lit (.bool true)], args := [d1, d2, d3] }
  | _ => none }
def jtreeRootsRow : OpenClaim := { program := "ytahpoodcmeoabaa", sum := "cb95c9d8a26c7998d9103890ba46f6a4067028e52de3224271eaf90c1a76afe9", func := "trommel/trommellaw23.JtreeRoots", spec := "jtreeRoots", unfollowed := true, recurses := true, plainKeys := false, apart := false }
def JtreeRootsSaid : Prop := jtreeRootsRow.holds Try.pinned (OpenSpec.ofChange jtreeRootsSpec)

/-- ITS FALSE NEIGHBOUR: 'it returns false'. Refute it at one input. -/
def jtreeRootsWrong : ChangeSpec := { name := "jtreeRoots", fn := fun _ => fun
  | [d1, d2, d3] => { results := [.lit (.bool false)], args := [d1, d2, d3] }
  | _ => none }
def JtreeRootsWrongFalsely : Prop := jtreeRootsRow.holds Try.pinned (OpenSpec.ofChange jtreeRootsWrong)

/-- 'trommellaw23.JtreeEars': WHATEVER THE INPUT: true; the input reads as it did. -/
def jtreeEarsSpec : ChangeSpec := { name := "jtreeEars", fn := fun _ => fun
  | [d1, d2] => { results := [.lit (.bool true)], args := [d1, d2] }
  | _ => none }
def jtreeEarsRow : OpenClaim := { program := "ytahpoodcmeoabaa", sum := "cb95c9d8a26c7998d9103890ba46f6a4067028e52de3224271eaf90c1a76afe9", func := "trommel/trommellaw23.JtreeEars", spec := "jtreeEars", unfollowed := true, recurses := true, plainKeys := false, apart := false }
def JtreeEarsSaid : Prop := jtreeEarsRow.holds Try.pinned (OpenSpec.ofChange jtreeEarsSpec)

/-- ITS FALSE NEIGHBOUR: 'it returns false'. Refute it at one input. -/
def jtreeEarsWrong : ChangeSpec := { name := "jtreeEars", fn := fun _ => fun
  | [d1, d2] => { results := [.lit (.bool false)], args := [d1, d2] }
  | _ => none }
def JtreeEarsWrongFalsely : Prop := jtreeEarsRow.holds Try.pinned (OpenSpec.ofChange jtreeEarsWrong)

/-- 'trommellaw21.GraphOfs': WHATEVER THE INPUT: true; the input reads as it did. -/
def graphOfsSpec : ChangeSpec := { name := "graphOfs", fn := fun _ => fun
  | [d] => { results := [.lit (.bool true)], args := [d] }
  | _ => none }
def graphOfsRow : OpenClaim := { program := "ytahpoodcmeoabaa", sum := "cb95c9d8a26c7998d9103890ba46f6a4067028e52de3224271eaf90c1a76afe9", func := "trommel/trommellaw21.GraphOfs", spec := "graphOfs", unfollowed := true, recurses := true, loops := true, plainKeys := false, apart := false }
def GraphOfsSaid : Prop := graphOfsRow.holds Try.pinned (OpenSpec.ofChange graphOfsSpec)

/-- ITS FALSE NEIGHBOUR: 'it returns false'. Refute it at one input. -/
def graphOfsWrong : ChangeSpec := { name := "graphOfs", fn := fun _ => fun
  | [d] => { results := [.lit (.bool false)], args := [d] }
  | _ => none }
def GraphOfsWrongFalsely : Prop := graphOfsRow.holds Try.pinned (OpenSpec.ofChange graphOfsWrong)

/-- 'trommellaw22.GyoEars': WHATEVER THE INPUT: true; the input reads as it did. -/
def gyoEarsSpec : ChangeSpec := { name := "gyoEars", fn := fun _ => fun
  | [d1, d2, d3] => { results := [.lit (.bool true)], args := [d1, d2, d3] }
  | _ => none }
def gyoEarsRow : OpenClaim := { program := "ytahpoodcmeoabaa", sum := "cb95c9d8a26c7998d9103890ba46f6a4067028e52de3224271eaf90c1a76afe9", func := "trommel/trommellaw22.GyoEars", spec := "gyoEars", unfollowed := true, recurses := true, plainKeys := false, apart := false }
def GyoEarsSaid : Prop := gyoEarsRow.holds Try.pinned (OpenSpec.ofChange gyoEarsSpec)

/-- ITS FALSE NEIGHBOUR: 'it returns false'. Refute it at one input. -/
def gyoEarsWrong : ChangeSpec := { name := "gyoEars", fn := fun _ => fun
  | [d1, d2, d3] => { results := [.lit (.bool false)], args := [d1, d2, d3] }
  | _ => none }
def GyoEarsWrongFalsely : Prop := gyoEarsRow.holds Try.pinned (OpenSpec.ofChange gyoEarsWrong)

/-- 'trommellaw22.GyoTrees': WHATEVER THE INPUT: true; the input reads as it did. -/
def gyoTreesSpec : ChangeSpec := { name := "gyoTrees", fn := fun _ => fun
  | [d] => { results := [.lit (.bool true)], args := [d] }
  | _ => none }
def gyoTreesRow : OpenClaim := { program := "ytahpoodcmeoabaa", sum := "cb95c9d8a26c7998d9103890ba46f6a4067028e52de3224271eaf90c1a76afe9", func := "trommel/trommellaw22.GyoTrees", spec := "gyoTrees", unfollowed := true, recurses := true, plainKeys := false, apart := false }
def GyoTreesSaid : Prop := gyoTreesRow.holds Try.pinned (OpenSpec.ofChange gyoTreesSpec)

/-- ITS FALSE NEIGHBOUR: 'it returns false'. Refute it at one input. -/
def gyoTreesWrong : ChangeSpec := { name := "gyoTrees", fn := fun _ => fun
  | [d] => { results := [.lit (.bool false)], args := [d] }
  | _ => none }
def GyoTreesWrongFalsely : Prop := gyoTreesRow.holds Try.pinned (OpenSpec.ofChange gyoTreesWrong)

/-- 'trommellaw22.GyoParents': WHATEVER THE INPUT: true; the input reads as it did. -/
def gyoParentsSpec : ChangeSpec := { name := "gyoParents", fn := fun _ => fun
  | [d] => { results := [.lit (.bool true)], args := [d] }
  | _ => none }
def gyoParentsRow : OpenClaim := { program := "ytahpoodcmeoabaa", sum := "cb95c9d8a26c7998d9103890ba46f6a4067028e52de3224271eaf90c1a76afe9", func := "trommel/trommellaw22.GyoParents", spec := "gyoParents", unfollowed := true, recurses := true, plainKeys := false, apart := false }
def GyoParentsSaid : Prop := gyoParentsRow.holds Try.pinned (OpenSpec.ofChange gyoParentsSpec)

/-- ITS FALSE NEIGHBOUR: 'it returns false'. Refute it at one input. -/
def gyoParentsWrong : ChangeSpec := { name := "gyoParents", fn := fun _ => fun
  | [d] => { results := [.lit (.bool false)], args := [d] }
  | _ => none }
def GyoParentsWrongFalsely : Prop := gyoParentsRow.holds Try.pinned (OpenSpec.ofChange gyoParentsWrong)

/-- 'trommellaw27.HistMarks': WHATEVER THE INPUT: true; the input reads as it did. -/
def histMarksSpec : ChangeSpec := { name := "histMarks", fn := fun _ => fun
  | [d1, d2] => { results := [.lit (.bool true)], args := [d1, d2] }
  | _ => none }
def histMarksRow : OpenClaim := { program := "ytahpoodcmeoabaa", sum := "cb95c9d8a26c7998d9103890ba46f6a4067028e52de3224271eaf90c1a76afe9", func := "trommel/trommellaw27.HistMarks", spec := "histMarks", unfollowed := true, recurses := true, plainKeys := false, apart := false }
def HistMarksSaid : Prop := histMarksRow.holds Try.pinned (OpenSpec.ofChange histMarksSpec)

/-- ITS FALSE NEIGHBOUR: 'it returns false'. Refute it at one input. -/
def histMarksWrong : ChangeSpec := { name := "histMarks", fn := fun _ => fun
  | [d1, d2] => { results := [.lit (.bool false)], args := [d1, d2] }
  | _ => none }
def HistMarksWrongFalsely : Prop := histMarksRow.holds Try.pinned (OpenSpec.ofChange histMarksWrong)

/-- 'trommellaw27.HistHeld': WHATEVER THE INPUT: true; the input reads as it did. -/
def histHeldSpec : ChangeSpec := { name := "histHeld", fn := fun _ => fun
  | [d1, d2, d3] => { results := [.lit (.bool true)], args := [d1, d2, d3] }
  | _ => none }
def histHeldRow : OpenClaim := { program := "ytahpoodcmeoabaa", sum := "cb95c9d8a26c7998d9103890ba46f6a4067028e52de3224271eaf90c1a76afe9", func := "trommel/trommellaw27.HistHeld", spec := "histHeld", unfollowed := true, recurses := true, plainKeys := false, apart := false }
def HistHeldSaid : Prop := histHeldRow.holds Try.pinned (OpenSpec.ofChange histHeldSpec)

/-- ITS FALSE NEIGHBOUR: 'it returns false'. Refute it at one input. -/
def histHeldWrong : ChangeSpec := { name := "histHeld", fn := fun _ => fun
  | [d1, d2, d3] => { results := [.lit (.bool false)], args := [d1, d2, d3] }
  | _ => none }
def HistHeldWrongFalsely : Prop := histHeldRow.holds Try.pinned (OpenSpec.ofChange histHeldWrong)

/-- 'trommellaw27.HistOfs': WHATEVER THE INPUT: true; the input reads as it did. -/
def histOfsSpec : ChangeSpec := { name := "histOfs", fn := fun _ => fun
  | [d] => { results := [.lit (.bool true)], args := [d] }
  | _ => none }
def histOfsRow : OpenClaim := { program := "ytahpoodcmeoabaa", sum := "cb95c9d8a26c7998d9103890ba46f6a4067028e52de3224271eaf90c1a76afe9", func := "trommel/trommellaw27.HistOfs", spec := "histOfs", unfollowed := true, recurses := true, plainKeys := false, apart := false }
def HistOfsSaid : Prop := histOfsRow.holds Try.pinned (OpenSpec.ofChange histOfsSpec)

/-- ITS FALSE NEIGHBOUR: 'it returns false'. Refute it at one input. -/
def histOfsWrong : ChangeSpec := { name := "histOfs", fn := fun _ => fun
  | [d] => { results := [.lit (.bool false)], args := [d] }
  | _ => none }
def HistOfsWrongFalsely : Prop := histOfsRow.holds Try.pinned (OpenSpec.ofChange histOfsWrong)

/-- 'trommellaw16.NormOfs': WHATEVER THE INPUT: true; the input reads as it did. -/
def normOfsSpec : ChangeSpec := { name := "normOfs", fn := fun _ => fun
  | [d1, d2] => { results := [.lit (.bool true)], args := [d1, d2] }
  | _ => none }
def normOfsRow : OpenClaim := { program := "ytahpoodcmeoabaa", sum := "cb95c9d8a26c7998d9103890ba46f6a4067028e52de3224271eaf90c1a76afe9", func := "trommel/trommellaw16.NormOfs", spec := "normOfs", unfollowed := true, recurses := true, loops := true, plainKeys := false, apart := false }
def NormOfsSaid : Prop := normOfsRow.holds Try.pinned (OpenSpec.ofChange normOfsSpec)

/-- ITS FALSE NEIGHBOUR: 'it returns false'. Refute it at one input. -/
def normOfsWrong : ChangeSpec := { name := "normOfs", fn := fun _ => fun
  | [d1, d2] => { results := [.lit (.bool false)], args := [d1, d2] }
  | _ => none }
def NormOfsWrongFalsely : Prop := normOfsRow.holds Try.pinned (OpenSpec.ofChange normOfsWrong)

/-- 'trommellaw16.NormClasses': WHATEVER THE INPUT: true; the input reads as it did. -/
def normClassesSpec : ChangeSpec := { name := "normClasses", fn := fun _ => fun
  | [d1, d2, d3, d4, d5] => { results := [.lit (.bool true)], args := [d1, d2, d3, d4, d5] }
  | _ => none }
def normClassesRow : OpenClaim := { program := "ytahpoodcmeoabaa", sum := "cb95c9d8a26c7998d9103890ba46f6a4067028e52de3224271eaf90c1a76afe9", func := "trommel/trommellaw16.NormClasses", spec := "normClasses", unfollowed := true, recurses := true, loops := true, plainKeys := false, apart := false }
def NormClassesSaid : Prop := normClassesRow.holds Try.pinned (OpenSpec.ofChange normClassesSpec)

/-- ITS FALSE NEIGHBOUR: 'it returns false'. Refute it at one input. -/
def normClassesWrong : ChangeSpec := { name := "normClasses", fn := fun _ => fun
  | [d1, d2, d3, d4, d5] => { results := [.lit (.bool false)], args := [d1, d2, d3, d4, d5] }
  | _ => none }
def NormClassesWrongFalsely : Prop := normClassesRow.holds Try.pinned (OpenSpec.ofChange normClassesWrong)

/- THE SECOND FORM. 'bulk': how many values and letters a reading holds, each counted each time it is reached (what is shared counts as often as it is met; a slice's spare places count too). A statement '..UptoSaid' is the law's where the arguments, and the package variables that the reading takes, are together of bulk at most 1048576: NARROWER than '..Said'. Prove '..Said' where nothing that the law and all that it calls make is longer than what came in: it says more and counts as full. Else prove '..UptoSaid'. A law counts once. -/
mutual
def uptoBulk {H : Type} : DataW H → Nat
  | .lit (.string bytes) => bytes.length + 1
  | .lit _ => 1
  | .nil => 1
  | .ptr d => uptoBulk d + 1
  | .slice elems spare => uptoBulkAll elems + uptoBulkAll spare + 1
  | .agg parts => uptoBulkAll parts + 1
  | .iface _ d => uptoBulk d + 1
  | .map entries => uptoBulkEntries entries + 1
  | .held _ => 1
def uptoBulkAll {H : Type} : List (DataW H) → Nat
  | [] => 0
  | d :: r => uptoBulk d + uptoBulkAll r
def uptoBulkEntries {H : Type} : List (Lit × DataW H) → Nat
  | [] => 0
  | x :: r => uptoBulkEntry x + uptoBulkEntries r
def uptoBulkEntry {H : Type} : Lit × DataW H → Nat
  | (.string bytes, d) => bytes.length + uptoBulk d + 1
  | (_, d) => uptoBulk d + 1
 end
def uptoSmall : (H : Type) → List (DataW H) → Bool := fun _ ds => decide (uptoBulkAll ds ≤ 1048576)
def OpenSpec.upto (s : _root_.Go.ChangeSpec) : _root_.Go.OpenSpec := { _root_.Go.OpenSpec.ofChange s with cond := some uptoSmall }

/-- 'trommellaw23.JtreeTells', WHERE WHAT IT READS IS OF BULK AT MOST 1048576: true; the input reads as it did. -/
def jtreeTellsUptoRow : OpenClaim := { program := "ytahpoodcmeoabaa", sum := "cb95c9d8a26c7998d9103890ba46f6a4067028e52de3224271eaf90c1a76afe9", func := "trommel/trommellaw23.JtreeTells", spec := "jtreeTells", unfollowed := true, recurses := true, plainKeys := false, apart := false, narrowed := true }
def JtreeTellsUptoSaid : Prop := jtreeTellsUptoRow.holds Try.pinned (OpenSpec.upto jtreeTellsSpec)

/-- 'trommellaw23.JtreeRoots', WHERE WHAT IT READS IS OF BULK AT MOST 1048576: true; the input reads as it did. -/
def jtreeRootsUptoRow : OpenClaim := { program := "ytahpoodcmeoabaa", sum := "cb95c9d8a26c7998d9103890ba46f6a4067028e52de3224271eaf90c1a76afe9", func := "trommel/trommellaw23.JtreeRoots", spec := "jtreeRoots", unfollowed := true, recurses := true, plainKeys := false, apart := false, narrowed := true }
def JtreeRootsUptoSaid : Prop := jtreeRootsUptoRow.holds Try.pinned (OpenSpec.upto jtreeRootsSpec)

/-- 'trommellaw23.JtreeEars', WHERE WHAT IT READS IS OF BULK AT MOST 1048576: true; the input reads as it did. -/
def jtreeEarsUptoRow : OpenClaim := { program := "ytahpoodcmeoabaa", sum := "cb95c9d8a26c7998d9103890ba46f6a4067028e52de3224271eaf90c1a76afe9", func := "trommel/trommellaw23.JtreeEars", spec := "jtreeEars", unfollowed := true, recurses := true, plainKeys := false, apart := false, narrowed := true }
def JtreeEarsUptoSaid : Prop := jtreeEarsUptoRow.holds Try.pinned (OpenSpec.upto jtreeEarsSpec)

/-- 'trommellaw21.GraphOfs', WHERE WHAT IT READS IS OF BULK AT MOST 1048576: true; the input reads as it did. -/
def graphOfsUptoRow : OpenClaim := { program := "ytahpoodcmeoabaa", sum := "cb95c9d8a26c7998d9103890ba46f6a4067028e52de3224271eaf90c1a76afe9", func := "trommel/trommellaw21.GraphOfs", spec := "graphOfs", unfollowed := true, recurses := true, loops := true, plainKeys := false, apart := false, narrowed := true }
def GraphOfsUptoSaid : Prop := graphOfsUptoRow.holds Try.pinned (OpenSpec.upto graphOfsSpec)

/-- 'trommellaw22.GyoEars', WHERE WHAT IT READS IS OF BULK AT MOST 1048576: true; the input reads as it did. -/
def gyoEarsUptoRow : OpenClaim := { program := "ytahpoodcmeoabaa", sum := "cb95c9d8a26c7998d9103890ba46f6a4067028e52de3224271eaf90c1a76afe9", func := "trommel/trommellaw22.GyoEars", spec := "gyoEars", unfollowed := true, recurses := true, plainKeys := false, apart := false, narrowed := true }
def GyoEarsUptoSaid : Prop := gyoEarsUptoRow.holds Try.pinned (OpenSpec.upto gyoEarsSpec)

/-- 'trommellaw22.GyoTrees', WHERE WHAT IT READS IS OF BULK AT MOST 1048576: true; the input reads as it did. -/
def gyoTreesUptoRow : OpenClaim := { program := "ytahpoodcmeoabaa", sum := "cb95c9d8a26c7998d9103890ba46f6a4067028e52de3224271eaf90c1a76afe9", func := "trommel/trommellaw22.GyoTrees", spec := "gyoTrees", unfollowed := true, recurses := true, plainKeys := false, apart := false, narrowed := true }
def GyoTreesUptoSaid : Prop := gyoTreesUptoRow.holds Try.pinned (OpenSpec.upto gyoTreesSpec)

/-- 'trommellaw22.GyoParents', WHERE WHAT IT READS IS OF BULK AT MOST 1048576: true; the input reads as it did. -/
def gyoParentsUptoRow : OpenClaim := { program := "ytahpoodcmeoabaa", sum := "cb95c9d8a26c7998d9103890ba46f6a4067028e52de3224271eaf90c1a76afe9", func := "trommel/trommellaw22.GyoParents", spec := "gyoParents", unfollowed := true, recurses := true, plainKeys := false, apart := false, narrowed := true }
def GyoParentsUptoSaid : Prop := gyoParentsUptoRow.holds Try.pinned (OpenSpec.upto gyoParentsSpec)

/-- 'trommellaw27.HistMarks', WHERE WHAT IT READS IS OF BULK AT MOST 1048576: true; the input reads as it did. -/
def histMarksUptoRow : OpenClaim := { program := "ytahpoodcmeoabaa", sum := "cb95c9d8a26c7998d9103890ba46f6a4067028e52de3224271eaf90c1a76afe9", func := "trommel/trommellaw27.HistMarks", spec := "histMarks", unfollowed := true, recurses := true, plainKeys := false, apart := false, narrowed := true }
def HistMarksUptoSaid : Prop := histMarksUptoRow.holds Try.pinned (OpenSpec.upto histMarksSpec)

/-- 'trommellaw27.HistHeld', WHERE WHAT IT READS IS OF BULK AT MOST 1048576: true; the input reads as it did. -/
def histHeldUptoRow : OpenClaim := { program := "ytahpoodcmeoabaa", sum := "cb95c9d8a26c7998d9103890ba46f6a4067028e52de3224271eaf90c1a76afe9", func := "trommel/trommellaw27.HistHeld", spec := "histHeld", unfollowed := true, recurses := true, plainKeys := false, apart := false, narrowed := true }
def HistHeldUptoSaid : Prop := histHeldUptoRow.holds Try.pinned (OpenSpec.upto histHeldSpec)

/-- 'trommellaw27.HistOfs', WHERE WHAT IT READS IS OF BULK AT MOST 1048576: true; the input reads as it did. -/
def histOfsUptoRow : OpenClaim := { program := "ytahpoodcmeoabaa", sum := "cb95c9d8a26c7998d9103890ba46f6a4067028e52de3224271eaf90c1a76afe9", func := "trommel/trommellaw27.HistOfs", spec := "histOfs", unfollowed := true, recurses := true, plainKeys := false, apart := false, narrowed := true }
def HistOfsUptoSaid : Prop := histOfsUptoRow.holds Try.pinned (OpenSpec.upto histOfsSpec)

/-- 'trommellaw16.NormOfs', WHERE WHAT IT READS IS OF BULK AT MOST 1048576: true; the input reads as it did. -/
def normOfsUptoRow : OpenClaim := { program := "ytahpoodcmeoabaa", sum := "cb95c9d8a26c7998d9103890ba46f6a4067028e52de3224271eaf90c1a76afe9", func := "trommel/trommellaw16.NormOfs", spec := "normOfs", unfollowed := true, recurses := true, loops := true, plainKeys := false, apart := false, narrowed := true }
def NormOfsUptoSaid : Prop := normOfsUptoRow.holds Try.pinned (OpenSpec.upto normOfsSpec)

/-- 'trommellaw16.NormClasses', WHERE WHAT IT READS IS OF BULK AT MOST 1048576: true; the input reads as it did. -/
def normClassesUptoRow : OpenClaim := { program := "ytahpoodcmeoabaa", sum := "cb95c9d8a26c7998d9103890ba46f6a4067028e52de3224271eaf90c1a76afe9", func := "trommel/trommellaw16.NormClasses", spec := "normClasses", unfollowed := true, recurses := true, loops := true, plainKeys := false, apart := false, narrowed := true }
def NormClassesUptoSaid : Prop := normClassesUptoRow.holds Try.pinned (OpenSpec.upto normClassesSpec)

end Rows
end Go.Proofs.Ytahpoodcmeoabaa
