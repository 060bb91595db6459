/- Rows put together, and parts of them. -/
import Derived.Test.YtjplcdeaedflpaaDoorLay
import Derived.Test.YtjplcdeaedflpaaDoorFFind3
namespace Go.Proofs.YtjplcdeaedflpaaDoor.PL
open Go.Proofs
set_option linter.unusedVariables false
set_option linter.unusedSimpArgs false
instance : Selfs Val.av := ⟨fun a x h => by simp at h; rcases h with rfl | rfl | rfl <;> simp⟩
def Gh.addT0 (Γ : Gh) (i b cap : Nat) : Gh := { Γ with T := fun j m => if j = i ∧ m = 0 then some (b, cap) else Γ.T j m }
/-- all numbers of some lists -/
def catV (h : List (List Val)) : List Val := h.flatMap id
theorem catV_next {h : List (List Val)} {i : Nat} (hi : i < h.length) : catV (h.take (i + 1)) = catV (h.take i) ++ h[i] := by
  unfold catV
  rw [take_next hi, List.flatMap_append]
  simp
theorem catV_le {h : List (List Val)} (hs : ∀ l, l ∈ h → l.length ≤ 1000) : (catV h).length ≤ 1000 * h.length := by
  induction h with
  | nil => simp [catV]
  | cons a h ih =>
    have h1 := hs a List.mem_cons_self
    have h2 := ih fun l hl => hs l (List.mem_cons_of_mem _ hl)
    have : catV (a :: h) = a ++ catV h := by simp [catV]
    rw [this, List.length_append, List.length_cons]
    omega
def GrowN (sz : Nat) (H : List HO) (x : AV) (xs : List AV) : Prop := (xs = [] ∧ (x = .sl .nil [] ∨ x = .sl .exact [])) ∨ ∃ t, x = .sl (.tok t) xs ∧ H[t]? = some (.spare xs.length sz)
theorem GrowN.own {sz : Nat} {H : List HO} {x : AV} {xs : List AV} (h : GrowN sz H x xs) : ∃ own, x = .sl own xs := by
  rcases h with ⟨rfl, h | h⟩ | ⟨t, h, _⟩
  · exact ⟨_, h⟩
  · exact ⟨_, h⟩
  · exact ⟨_, h⟩
end Go.Proofs.YtjplcdeaedflpaaDoor.PL
