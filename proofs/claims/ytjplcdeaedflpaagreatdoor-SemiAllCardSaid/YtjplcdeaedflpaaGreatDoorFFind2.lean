/- What finding in tables tells, the rest. -/
import Derived.Test.YtjplcdeaedflpaaGreatDoorFFind
import Derived.Test.YtjplcdeaedflpaaGreatDoorFGrow
namespace Go.Proofs.YtjplcdeaedflpaaGreatDoor.PL
open Go.Proofs
set_option linter.unusedVariables false
set_option linter.unusedSimpArgs false

def dropAt {α : Type} (l : List α) (n : Int) : Nat → List α
  | 0 => []
  | i + 1 => dropAt l n i ++ match l[i]? with | some a => if (i : Int) = n then [] else [a] | none => []

end Go.Proofs.YtjplcdeaedflpaaGreatDoor.PL
