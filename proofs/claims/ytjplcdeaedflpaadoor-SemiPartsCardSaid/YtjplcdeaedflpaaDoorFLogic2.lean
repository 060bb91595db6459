/- What the laws of truths tell. -/
import Derived.Test.YtjplcdeaedflpaaDoorFLogic
namespace Go.Proofs.YtjplcdeaedflpaaDoor.PL
open Go.Proofs
set_option linter.unusedVariables false
set_option linter.unusedSimpArgs false
theorem not_and (l : List Int) : notT (andT l) = orT (l.map notT) := by
  have h1 : 1 ∈ l.map notT ↔ 0 ∈ l := by
    simp only [List.mem_map]
    constructor
    · rintro ⟨x, hx, h⟩
      unfold notT at h
      split at h
      · rename_i h0; rw [← h0]; exact hx
      · split at h <;> simp at h
    · intro h; exact ⟨0, h, rfl⟩
  have h2 : 2 ∈ (l.map notT).map tru ↔ 2 ∈ l.map tru := by
    simp only [List.mem_map, List.map_map, Function.comp]
    constructor
    · rintro ⟨x, hx, h⟩; refine ⟨x, hx, ?_⟩; unfold notT tru at h; unfold tru; grind
    · rintro ⟨x, hx, h⟩; refine ⟨x, hx, ?_⟩; unfold tru at h; unfold notT tru; grind
  unfold andT orT
  simp only [h1, h2]
  split
  · rfl
  · split <;> rfl


end Go.Proofs.YtjplcdeaedflpaaDoor.PL
