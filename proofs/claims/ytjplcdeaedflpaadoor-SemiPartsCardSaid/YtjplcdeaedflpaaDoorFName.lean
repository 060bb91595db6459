/- What the functions of names and words tell. -/
import Derived.Test.YtjplcdeaedflpaaDoorFVal
namespace Go.Proofs.YtjplcdeaedflpaaDoor.PL
open Go.Proofs
set_option linter.unusedVariables false
set_option linter.unusedSimpArgs false
def words : List (List UInt8) := [[115, 101, 108, 101, 99, 116], [102, 114, 111, 109], [106, 111, 105, 110], [108, 101, 102, 116], [115, 101, 109, 105], [97, 110, 116, 105], [111, 110], [119, 104, 101, 114, 101], [103, 114, 111, 117, 112], [98, 121], [97, 115], [97, 110, 100], [111, 114], [110, 111, 116], [105, 115], [110, 117, 108, 108], [99, 111, 117, 110, 116], [115, 117, 109], [109, 105, 110], [109, 97, 120]]
def wordB (l : List UInt8) : Bool := decide (l ∈ words)


def okc (c : UInt8) : Bool := (decide (97 ≤ c.toNat) && decide (c.toNat ≤ 122)) || (decide (48 ≤ c.toNat) && decide (c.toNat ≤ 57)) || decide (c.toNat = 95)
def nameB (l : List UInt8) : Bool := match l with | [] => false | c :: _ => decide (l.length ≤ 32) && !wordB l && !(decide (48 ≤ c.toNat) && decide (c.toNat ≤ 57)) && l.all okc
theorem byte0 {s : ByteArray} {c : UInt8} {l : List UInt8} (h : s.toList = c :: l) : byteAt s 0 = (c.toNat : Int) := by
  have := byteAt_get (a := s) (i := 0) (by rw [h]; simp)
  simpa [h] using this




end Go.Proofs.YtjplcdeaedflpaaDoor.PL
