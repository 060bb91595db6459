/-
  NARROWER THAN 'FOR EVERY INPUT', by the rows' own cells (each row's printed sentence says how): NormOfs: loops · NormClasses: loops · ReadyPlans: loops · ReadyOne: loops.
  DERIVED. THE GIVEN ROWS OF THIS SEAT. 7 by the template 'for every input the law returns true; each argument reads behind the call as it read before'; 0 by the template 'total and deterministic' (their statements: YtcjfjoilgnlemaaTotals.lean).
  GIVEN WITH THE SEED: the statements are not yours to turn. If you find one false, say at which input.
  Laid BY PROGRAM, IN A SANDBOX (cutbox-rows.mjs): the forced cells as the released guide's own fill.sh prints them over the translation 3c628110d5c62731… (all of the seat's roots in one cut). By AI agents, Wed Nov 11 2026. No macro, syntax, notation, axiom, sorry.
-/
import Derived.Test.YtcjfjoilgnlemaaChecked
import GoSem.Claim
import GoSem.ClaimJoined
import GoSem.ClaimMapViews
import Derived.JoinedTies
import Derived.KernelRfl
namespace Go.Proofs.Ytcjfjoilgnlemaa
/- THE CELL 'sum', in the pinned program and in every row, IS THE sha256 OF THE DUMP (.gsa) THAT YtcjfjoilgnlemaaProg.lean LOADS. Nothing in Lean hashes anything: it is a label: what it is worth is what the hold of that sum in a sandbox is worth. -/
noncomputable def Try.pinned : Pinned := { name := "ytcjfjoilgnlemaa", sum := "3c628110d5c62731c61e7a4df48fc53fc12a3e55bba0832fca0dc9730c26fd45", checked := Try.checked }
namespace Rows
def none {H : Type} : Left H := { results := [], args := [] }

/-- 'trommellaw27.HistMarks': WHATEVER THE INPUT: true; the input reads as it did. -/
def histMarksSpec : ChangeSpec := { name := "histMarks", fn := fun _ => fun
  | [d1, d2] => { results := [.lit (.bool true)], args := [d1, d2] }
  | _ => none }
def histMarksRow : OpenClaim := { program := "ytcjfjoilgnlemaa", sum := "3c628110d5c62731c61e7a4df48fc53fc12a3e55bba0832fca0dc9730c26fd45", func := "trommel/trommellaw27.HistMarks", spec := "histMarks", unfollowed := true, recurses := true, plainKeys := false, apart := false }
def HistMarksSaid : Prop := histMarksRow.holds Try.pinned (OpenSpec.ofChange histMarksSpec)

/-- ITS FALSE NEIGHBOUR: 'it returns false'. Refute it at one input. -/
def histMarksWrong : ChangeSpec := { name := "histMarks", fn := fun _ => fun
  | [d1, d2] => { results := [.lit (.bool false)], args := [d1, d2] }
  | _ => none }
def HistMarksWrongFalsely : Prop := histMarksRow.holds Try.pinned (OpenSpec.ofChange histMarksWrong)

/-- 'trommellaw27.HistHeld': WHATEVER THE INPUT: true; the input reads as it did. -/
def histHeldSpec : ChangeSpec := { name := "histHeld", fn := fun _ => fun
  | [d1, d2, d3] => { results := [.lit (.bool true)], args := [d1, d2, d3] }
  | _ => none }
def histHeldRow : OpenClaim := { program := "ytcjfjoilgnlemaa", sum := "3c628110d5c62731c61e7a4df48fc53fc12a3e55bba0832fca0dc9730c26fd45", func := "trommel/trommellaw27.HistHeld", spec := "histHeld", unfollowed := true, recurses := true, plainKeys := false, apart := false }
def HistHeldSaid : Prop := histHeldRow.holds Try.pinned (OpenSpec.ofChange histHeldSpec)

/-- ITS FALSE NEIGHBOUR: 'it returns false'. Refute it at one input. -/
def histHeldWrong : ChangeSpec := { name := "histHeld", fn := fun _ => fun
  | [d1, d2, d3] => { results := [.lit (.bool false)], args := [d1, d2, d3] }
  | _ => none }
def HistHeldWrongFalsely : Prop := histHeldRow.holds Try.pinned (OpenSpec.ofChange histHeldWrong)

/-- 'trommellaw27.HistOfs': WHATEVER THE INPUT: true; the input reads as it did. -/
def histOfsSpec : ChangeSpec := { name := "histOfs", fn := fun _ => fun
  | [d] => { results := [.lit (.bool true)], args := [d] }
  | _ => none }
def histOfsRow : OpenClaim := { program := "ytcjfjoilgnlemaa", sum := "3c628110d5c62731c61e7a4df48fc53fc12a3e55bba0832fca0dc9730c26fd45", func := "trommel/trommellaw27.HistOfs", spec := "histOfs", unfollowed := true, recurses := true, plainKeys := false, apart := false }
def HistOfsSaid : Prop := histOfsRow.holds Try.pinned (OpenSpec.ofChange histOfsSpec)

/-- ITS FALSE NEIGHBOUR: 'it returns false'. Refute it at one input. -/
def histOfsWrong : ChangeSpec := { name := "histOfs", fn := fun _ => fun
  | [d] => { results := [.lit (.bool false)], args := [d] }
  | _ => none }
def HistOfsWrongFalsely : Prop := histOfsRow.holds Try.pinned (OpenSpec.ofChange histOfsWrong)

/-- 'trommellaw16.NormOfs': WHATEVER THE INPUT: true; the input reads as it did. -/
def normOfsSpec : ChangeSpec := { name := "normOfs", fn := fun _ => fun
  | [d1, d2] => { results := [.lit (.bool true)], args := [d1, d2] }
  | _ => none }
def normOfsRow : OpenClaim := { program := "ytcjfjoilgnlemaa", sum := "3c628110d5c62731c61e7a4df48fc53fc12a3e55bba0832fca0dc9730c26fd45", func := "trommel/trommellaw16.NormOfs", spec := "normOfs", unfollowed := true, recurses := true, loops := true, plainKeys := false, apart := false }
def NormOfsSaid : Prop := normOfsRow.holds Try.pinned (OpenSpec.ofChange normOfsSpec)

/-- ITS FALSE NEIGHBOUR: 'it returns false'. Refute it at one input. -/
def normOfsWrong : ChangeSpec := { name := "normOfs", fn := fun _ => fun
  | [d1, d2] => { results := [.lit (.bool false)], args := [d1, d2] }
  | _ => none }
def NormOfsWrongFalsely : Prop := normOfsRow.holds Try.pinned (OpenSpec.ofChange normOfsWrong)

/-- 'trommellaw16.NormClasses': WHATEVER THE INPUT: true; the input reads as it did. -/
def normClassesSpec : ChangeSpec := { name := "normClasses", fn := fun _ => fun
  | [d1, d2, d3, d4, d5] => { results := [.lit (.bool true)], args := [d1, d2, d3, d4, d5] }
  | _ => none }
def normClassesRow : OpenClaim := { program := "ytcjfjoilgnlemaa", sum := "3c628110d5c62731c61e7a4df48fc53fc12a3e55bba0832fca0dc9730c26fd45", func := "trommel/trommellaw16.NormClasses", spec := "normClasses", unfollowed := true, recurses := true, loops := true, plainKeys := false, apart := false }
def NormClassesSaid : Prop := normClassesRow.holds Try.pinned (OpenSpec.ofChange normClassesSpec)

/-- ITS FALSE NEIGHBOUR: 'it returns false'. Refute it at one input. -/
def normClassesWrong : ChangeSpec := { name := "normClasses", fn := fun _ => fun
  | [d1, d2, d3, d4, d5] => { results := [.lit (.bool false)], args := [d1, d2, d3, d4, d5] }
  | _ => none }
def NormClassesWrongFalsely : Prop := normClassesRow.holds Try.pinned (OpenSpec.ofChange normClassesWrong)

/-- 'trommellaw33.ReadyPlans': WHATEVER THE INPUT: true; the input reads as it did. -/
def readyPlansSpec : ChangeSpec := { name := "readyPlans", fn := fun _ => fun
  | [d1, d2, d3] => { results := [.lit (.bool true)], args := [d1, d2, d3] }
  | _ => none }
def readyPlansRow : OpenClaim := { program := "ytcjfjoilgnlemaa", sum := "3c628110d5c62731c61e7a4df48fc53fc12a3e55bba0832fca0dc9730c26fd45", func := "trommel/trommellaw33.ReadyPlans", spec := "readyPlans", unfollowed := true, recurses := true, loops := true, plainKeys := false, apart := false }
def ReadyPlansSaid : Prop := readyPlansRow.holds Try.pinned (OpenSpec.ofChange readyPlansSpec)

/-- ITS FALSE NEIGHBOUR: 'it returns false'. Refute it at one input. -/
def readyPlansWrong : ChangeSpec := { name := "readyPlans", fn := fun _ => fun
  | [d1, d2, d3] => { results := [.lit (.bool false)], args := [d1, d2, d3] }
  | _ => none }
def ReadyPlansWrongFalsely : Prop := readyPlansRow.holds Try.pinned (OpenSpec.ofChange readyPlansWrong)

/-- 'trommellaw33.ReadyOne': WHATEVER THE INPUT: true; the input reads as it did. -/
def readyOneSpec : ChangeSpec := { name := "readyOne", fn := fun _ => fun
  | [d1, d2, d3, d4] => { results := [.lit (.bool true)], args := [d1, d2, d3, d4] }
  | _ => none }
def readyOneRow : OpenClaim := { program := "ytcjfjoilgnlemaa", sum := "3c628110d5c62731c61e7a4df48fc53fc12a3e55bba0832fca0dc9730c26fd45", func := "trommel/trommellaw33.ReadyOne", spec := "readyOne", unfollowed := true, recurses := true, loops := true, plainKeys := false, apart := false }
def ReadyOneSaid : Prop := readyOneRow.holds Try.pinned (OpenSpec.ofChange readyOneSpec)

/-- ITS FALSE NEIGHBOUR: 'it returns false'. Refute it at one input. -/
def readyOneWrong : ChangeSpec := { name := "readyOne", fn := fun _ => fun
  | [d1, d2, d3, d4] => { results := [.lit (.bool false)], args := [d1, d2, d3, d4] }
  | _ => none }
def ReadyOneWrongFalsely : Prop := readyOneRow.holds Try.pinned (OpenSpec.ofChange readyOneWrong)

/- THE SECOND FORM. 'bulk': how many values and letters a reading holds, each counted each time it is reached (what is shared counts as often as it is met; a slice's spare places count too). A statement '..UptoSaid' is the law's where the arguments, and the package variables that the reading takes, are together of bulk at most 1048576: NARROWER than '..Said'. Prove '..Said' where nothing that the law and all that it calls make is longer than what came in: it says more and counts as full. Else prove '..UptoSaid'. A law counts once. -/
mutual
def uptoBulk {H : Type} : DataW H → Nat
  | .lit (.string bytes) => bytes.length + 1
  | .lit _ => 1
  | .nil => 1
  | .ptr d => uptoBulk d + 1
  | .slice elems spare => uptoBulkAll elems + uptoBulkAll spare + 1
  | .agg parts => uptoBulkAll parts + 1
  | .iface _ d => uptoBulk d + 1
  | .map entries => uptoBulkEntries entries + 1
  | .held _ => 1
def uptoBulkAll {H : Type} : List (DataW H) → Nat
  | [] => 0
  | d :: r => uptoBulk d + uptoBulkAll r
def uptoBulkEntries {H : Type} : List (Lit × DataW H) → Nat
  | [] => 0
  | x :: r => uptoBulkEntry x + uptoBulkEntries r
def uptoBulkEntry {H : Type} : Lit × DataW H → Nat
  | (.string bytes, d) => bytes.length + uptoBulk d + 1
  | (_, d) => uptoBulk d + 1
 end
def uptoSmall : (H : Type) → List (DataW H) → Bool := fun _ ds => decide (uptoBulkAll ds ≤ 1048576)
def OpenSpec.upto (s : _root_.Go.ChangeSpec) : _root_.Go.OpenSpec := { _root_.Go.OpenSpec.ofChange s with cond := some uptoSmall }

/-- 'trommellaw27.HistMarks', WHERE WHAT IT READS IS OF BULK AT MOST 1048576: true; the input reads as it did. -/
def histMarksUptoRow : OpenClaim := { program := "ytcjfjoilgnlemaa", sum := "3c628110d5c62731c61e7a4df48fc53fc12a3e55bba0832fca0dc9730c26fd45", func := "trommel/trommellaw27.HistMarks", spec := "histMarks", unfollowed := true, recurses := true, plainKeys := false, apart := false, narrowed := true }
def HistMarksUptoSaid : Prop := histMarksUptoRow.holds Try.pinned (OpenSpec.upto histMarksSpec)

/-- 'trommellaw27.HistHeld', WHERE WHAT IT READS IS OF BULK AT MOST 1048576: true; the input reads as it did. -/
def histHeldUptoRow : OpenClaim := { program := "ytcjfjoilgnlemaa", sum := "3c628110d5c62731c61e7a4df48fc53fc12a3e55bba0832fca0dc9730c26fd45", func := "trommel/trommellaw27.HistHeld", spec := "histHeld", unfollowed := true, recurses := true, plainKeys := false, apart := false, narrowed := true }
def HistHeldUptoSaid : Prop := histHeldUptoRow.holds Try.pinned (OpenSpec.upto histHeldSpec)

/-- 'trommellaw27.HistOfs', WHERE WHAT IT READS IS OF BULK AT MOST 1048576: true; the input reads as it did. -/
def histOfsUptoRow : OpenClaim := { program := "ytcjfjoilgnlemaa", sum := "3c628110d5c62731c61e7a4df48fc53fc12a3e55bba0832fca0dc9730c26fd45", func := "trommel/trommellaw27.HistOfs", spec := "histOfs", unfollowed := true, recurses := true, plainKeys := false, apart := false, narrowed := true }
def HistOfsUptoSaid : Prop := histOfsUptoRow.holds Try.pinned (OpenSpec.upto histOfsSpec)

/-- 'trommellaw16.NormOfs', WHERE WHAT IT READS IS OF BULK AT MOST 1048576: true; the input reads as it did. -/
def normOfsUptoRow : OpenClaim := { program := "ytcjfjoilgnlemaa", sum := "3c628110d5c62731c61e7a4df48fc53fc12a3e55bba0832fca0dc9730c26fd45", func := "trommel/trommellaw16.NormOfs", spec := "normOfs", unfollowed := true, recurses := true, loops := true, plainKeys := false, apart := false, narrowed := true }
def NormOfsUptoSaid : Prop := normOfsUptoRow.holds Try.pinned (OpenSpec.upto normOfsSpec)

/-- 'trommellaw16.NormClasses', WHERE WHAT IT READS IS OF BULK AT MOST 1048576: true; the input reads as it did. -/
def normClassesUptoRow : OpenClaim := { program := "ytcjfjoilgnlemaa", sum := "3c628110d5c62731c61e7a4df48fc53fc12a3e55bba0832fca0dc9730c26fd45", func := "trommel/trommellaw16.NormClasses", spec := "normClasses", unfollowed := true, recurses := true, loops := true, plainKeys := false, apart := false, narrowed := true }
def NormClassesUptoSaid : Prop := normClassesUptoRow.holds Try.pinned (OpenSpec.upto normClassesSpec)

/-- 'trommellaw33.ReadyPlans', WHERE WHAT IT READS IS OF BULK AT MOST 1048576: true; the input reads as it did. -/
def readyPlansUptoRow : OpenClaim := { program := "ytcjfjoilgnlemaa", sum := "3c628110d5c62731c61e7a4df48fc53fc12a3e55bba0832fca0dc9730c26fd45", func := "trommel/trommellaw33.ReadyPlans", spec := "readyPlans", unfollowed := true, recurses := true, loops := true, plainKeys := false, apart := false, narrowed := true }
def ReadyPlansUptoSaid : Prop := readyPlansUptoRow.holds Try.pinned (OpenSpec.upto readyPlansSpec)

/-- 'trommellaw33.ReadyOne', WHERE WHAT IT READS IS OF BULK AT MOST 1048576: true; the input reads as it did. -/
def readyOneUptoRow : OpenClaim := { program := "ytcjfjoilgnlemaa", sum := "3c628110d5c62731c61e7a4df48fc53fc12a3e55bba0832fca0dc9730c26fd45", func := "trommel/trommellaw33.ReadyOne", spec := "readyOne", unfollowed := true, recurses := true, loops := true, plainKeys := false, apart := false, narrowed := true }
def ReadyOneUptoSaid : Prop := readyOneUptoRow.holds Try.pinned (OpenSpec.upto readyOneSpec)

end Rows
end Go.Proofs.Ytcjfjoilgnlemaa
