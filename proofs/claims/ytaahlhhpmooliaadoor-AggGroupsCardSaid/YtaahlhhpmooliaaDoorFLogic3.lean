/- What signs between values tell. -/
import Derived.Test.YtaahlhhpmooliaaDoorFLogic2
import Derived.Test.YtaahlhhpmooliaaDoorFOrd
namespace Go.Proofs.YtaahlhhpmooliaaDoor.PL
open Go.Proofs
set_option linter.unusedVariables false
set_option linter.unusedSimpArgs false
def alike (a b : Val) : Prop := a.k = b.k ∧ (a.k = 1 ∨ a.k = 2)
instance (a b : Val) : Decidable (alike a b) := by unfold alike; infer_instance
theorem alike_swap {a b : Val} : alike b a ↔ alike a b := by unfold alike; grind
def eqT (a b : Val) : Int := if alike a b then (if order a b = 0 then 1 else 0) else 2
def lessT (a b : Val) : Int := if alike a b then (if order a b < 0 then 1 else 0) else 2
def testT (op : Int) (a b : Val) : Int :=
  if alike a b then
    (if op = 1 then if order a b = 0 then 1 else 0 else if op = 2 then if order a b = 0 then 0 else 1 else if op = 3 then if order a b < 0 then 1 else 0
    else if op = 4 then if order a b ≤ 0 then 1 else 0 else if op = 5 then if 0 < order a b then 1 else 0 else if op = 6 then if 0 ≤ order a b then 1 else 0 else 2) else 2









end Go.Proofs.YtaahlhhpmooliaaDoor.PL
