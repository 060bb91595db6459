/- What finding in tables tells, the rest. -/
import Derived.Test.YtjplcdeaedflpaaDoorFFind
import Derived.Test.YtjplcdeaedflpaaDoorFGrow
namespace Go.Proofs.YtjplcdeaedflpaaDoor.PL
open Go.Proofs
set_option linter.unusedVariables false
set_option linter.unusedSimpArgs false

def dropAt {α : Type} (l : List α) (n : Int) : Nat → List α
  | 0 => []
  | i + 1 => dropAt l n i ++ match l[i]? with | some a => if (i : Int) = n then [] else [a] | none => []

end Go.Proofs.YtjplcdeaedflpaaDoor.PL
