/- A slice that grows in a loop, from nil on; what else the call has made stands behind. -/
import Derived.Test.YtjplcdeaedflpaaDoorPLe
namespace Go.Proofs.YtjplcdeaedflpaaDoor.PL
open Go.Proofs
set_option linter.unusedVariables false
set_option linter.unusedSimpArgs false
def Grow0 (sz : Nat) (J : List HO) (x : AV) (xs : List AV) : Prop := (xs = [] ∧ x = .sl .nil []) ∨ ∃ t, x = .sl (.tok (t + 1)) xs ∧ J[t]? = some (.spare xs.length sz)
theorem Grow0.first {sz : Nat} {J : List HO} {y : AV} : Grow0 sz (J ++ [.spare 1 sz]) (.sl (.tok (J.length + 1)) [y]) [y] := .inr ⟨J.length, rfl, by simp⟩
theorem Grow0.more {sz t n : Nat} {J : List HO} {xs : List AV} {y : AV} (ht : J[t]? = some (.spare xs.length sz)) (hn : n = xs.length + 1) : Grow0 sz (J.set t (.spare n sz)) (.sl (.tok (t + 1)) (xs ++ [y])) (xs ++ [y]) :=
  .inr ⟨t, rfl, by rw [List.getElem?_set_self (List.getElem?_eq_some_iff.1 ht).1]; simp [hn]⟩
theorem Grow0.more' {α : Type} {f : α → AV} {l : List α} {a : α} {sz t n : Nat} {J : List HO} (ht : J[t]? = some (.spare (avs f l).length sz)) (hn : n = l.length + 1) : Grow0 sz (J.set t (.spare n sz)) (.sl (.tok (t + 1)) (avs f (l ++ [a]))) (avs f (l ++ [a])) :=
  .inr ⟨t, rfl, by rw [List.getElem?_set_self (List.getElem?_eq_some_iff.1 ht).1]; simp [hn]⟩
theorem Grow0.own {sz : Nat} {J : List HO} {x : AV} {xs : List AV} (h : Grow0 sz J x xs) : ∃ own, x = .sl own xs := by
  rcases h with ⟨rfl, h⟩ | ⟨t, h, _⟩
  · exact ⟨_, h⟩
  · exact ⟨_, h⟩
theorem Grow0.app {sz : Nat} {J L : List HO} {x : AV} {xs : List AV} (h : Grow0 sz J x xs) : Grow0 sz (J ++ L) x xs := by
  rcases h with h | ⟨t, h, ht⟩
  · exact .inl h
  · exact .inr ⟨t, h, by rw [List.getElem?_append_left (List.getElem?_eq_some_iff.1 ht).1]; exact ht⟩
theorem Grow0.first' {α : Type} {f : α → AV} {l : List α} {a : α} {sz : Nat} {J : List HO} {k : Nat} (hl : l = []) (hk : k = J.length + 1) : Grow0 sz (J ++ [.spare 1 sz]) (.sl (.tok k) [f a]) (avs f (l ++ [a])) := by
  subst hl; subst hk; exact Grow0.first
/-- the same, in all of the call's memory -/
def Grow1 (sz : Nat) (H : List HO) (x : AV) (xs : List AV) : Prop := (xs = [] ∧ x = .sl .nil []) ∨ ∃ t, x = .sl (.tok t) xs ∧ H[t]? = some (.spare xs.length sz)
theorem Grow1.nil {sz : Nat} {H : List HO} : Grow1 sz H (.sl .nil []) [] := .inl ⟨rfl, rfl⟩
theorem Grow1.first {α : Type} {f : α → AV} {l : List α} {a : α} {sz : Nat} {H : List HO} {k : Nat} (hl : l = []) (hk : k = H.length) : Grow1 sz (H ++ [.spare 1 sz]) (.sl (.tok k) [f a]) (avs f (l ++ [a])) := by
  subst hl; subst hk; exact .inr ⟨H.length, rfl, by simp⟩
theorem Grow1.more {α : Type} {f : α → AV} {l : List α} {a : α} {sz t n : Nat} {H : List HO} (ht : H[t]? = some (.spare (avs f l).length sz)) (hn : n = l.length + 1) : Grow1 sz (H.set t (.spare n sz)) (.sl (.tok t) (avs f (l ++ [a]))) (avs f (l ++ [a])) :=
  .inr ⟨t, rfl, by rw [List.getElem?_set_self (List.getElem?_eq_some_iff.1 ht).1]; simp [hn]⟩
theorem Grow1.own {sz : Nat} {H : List HO} {x : AV} {xs : List AV} (h : Grow1 sz H x xs) : ∃ own, x = .sl own xs := by
  rcases h with ⟨rfl, h⟩ | ⟨t, h, _⟩
  · exact ⟨_, h⟩
  · exact ⟨_, h⟩
theorem Grow1.app {sz : Nat} {H L : List HO} {x : AV} {xs : List AV} (h : Grow1 sz H x xs) : Grow1 sz (H ++ L) x xs := by
  rcases h with h | ⟨t, h, ht⟩
  · exact .inl h
  · exact .inr ⟨t, h, by rw [List.getElem?_append_left (List.getElem?_eq_some_iff.1 ht).1]; exact ht⟩
/-- the same, in the memory behind A -/
def GrowB (sz : Nat) (A J : List HO) (x : AV) (xs : List AV) : Prop := (xs = [] ∧ x = .sl .nil []) ∨ ∃ t, x = .sl (.tok (A.length + t)) xs ∧ J[t]? = some (.spare xs.length sz)
theorem GrowB.nil {sz : Nat} {A J : List HO} : GrowB sz A J (.sl .nil []) [] := .inl ⟨rfl, rfl⟩
theorem GrowB.first {α : Type} {f : α → AV} {l : List α} {a : α} {sz : Nat} {A J : List HO} {k : Nat} (hl : l = []) (hk : k = A.length + J.length) : GrowB sz A (J ++ [.spare 1 sz]) (.sl (.tok k) [f a]) (avs f (l ++ [a])) := by
  subst hl; subst hk; exact .inr ⟨J.length, rfl, by simp⟩
theorem GrowB.more {α : Type} {f : α → AV} {l : List α} {a : α} {sz t n : Nat} {A J : List HO} (ht : J[t]? = some (.spare (avs f l).length sz)) (hn : n = l.length + 1) : GrowB sz A (J.set t (.spare n sz)) (.sl (.tok (A.length + t)) (avs f (l ++ [a]))) (avs f (l ++ [a])) :=
  .inr ⟨t, rfl, by rw [List.getElem?_set_self (List.getElem?_eq_some_iff.1 ht).1]; simp [hn]⟩
theorem GrowB.own {sz : Nat} {A J : List HO} {x : AV} {xs : List AV} (h : GrowB sz A J x xs) : ∃ own, x = .sl own xs := by
  rcases h with ⟨rfl, h⟩ | ⟨t, h, _⟩
  · exact ⟨_, h⟩
  · exact ⟨_, h⟩
theorem GrowB.app {sz : Nat} {A J L : List HO} {x : AV} {xs : List AV} (h : GrowB sz A J x xs) : GrowB sz A (J ++ L) x xs := by
  rcases h with h | ⟨t, h, ht⟩
  · exact .inl h
  · exact .inr ⟨t, h, by rw [List.getElem?_append_left (List.getElem?_eq_some_iff.1 ht).1]; exact ht⟩
/-- the same, behind k things -/
def GrowK (k sz : Nat) (J : List HO) (x : AV) (xs : List AV) : Prop := (xs = [] ∧ x = .sl .nil []) ∨ ∃ t, x = .sl (.tok (t + k)) xs ∧ J[t]? = some (.spare xs.length sz)
theorem GrowK.nil {k sz : Nat} {J : List HO} : GrowK k sz J (.sl .nil []) [] := .inl ⟨rfl, rfl⟩
theorem GrowK.first {α : Type} {f : α → AV} {l : List α} {a : α} {q sz : Nat} {J : List HO} {k : Nat} (hl : l = []) (hk : k = J.length + q) : GrowK q sz (J ++ [.spare 1 sz]) (.sl (.tok k) [f a]) (avs f (l ++ [a])) := by
  subst hl; subst hk; exact .inr ⟨J.length, rfl, by simp⟩
theorem GrowK.more {α : Type} {f : α → AV} {l : List α} {a : α} {q sz t n : Nat} {J : List HO} (ht : J[t]? = some (.spare (avs f l).length sz)) (hn : n = l.length + 1) : GrowK q sz (J.set t (.spare n sz)) (.sl (.tok (t + q)) (avs f (l ++ [a]))) (avs f (l ++ [a])) :=
  .inr ⟨t, rfl, by rw [List.getElem?_set_self (List.getElem?_eq_some_iff.1 ht).1]; simp [hn]⟩
theorem GrowK.own {k sz : Nat} {J : List HO} {x : AV} {xs : List AV} (h : GrowK k sz J x xs) : ∃ own, x = .sl own xs := by
  rcases h with ⟨rfl, h⟩ | ⟨t, h, _⟩
  · exact ⟨_, h⟩
  · exact ⟨_, h⟩
theorem GrowK.app {k sz : Nat} {J L : List HO} {x : AV} {xs : List AV} (h : GrowK k sz J x xs) : GrowK k sz (J ++ L) x xs := by
  rcases h with h | ⟨t, h, ht⟩
  · exact .inl h
  · exact .inr ⟨t, h, by rw [List.getElem?_append_left (List.getElem?_eq_some_iff.1 ht).1]; exact ht⟩
end Go.Proofs.YtjplcdeaedflpaaDoor.PL
