/- A slice of one thing, some times over. -/
import Derived.Test.YtcjfjoilgnlemaaFArith
import Derived.Test.YtcjfjoilgnlemaaFLib
namespace Go.Proofs.Ytcjfjoilgnlemaa.PL
open Go.Proofs
set_option linter.unusedVariables false
set_option linter.unusedSimpArgs false
abbrev bools' (l : List Bool) : List AV := avs AV.bool l
theorem repB_zero (n : Nat) : repeatA [AV.bool false] n = avs AV.bool (List.replicate n false) := by
  induction n with
  | zero => rfl
  | succ n ih => rw [repeatA, ih, List.replicate_succ]; rfl
theorem repI_zero (n : Nat) : repeatA [(AV.int .i64) 0] n = avs (AV.int .i64) (List.replicate n 0) := by
  induction n with
  | zero => rfl
  | succ n ih => rw [repeatA, ih, List.replicate_succ]; rfl
/-- a list grown from nil on, by lists that may be empty; in all of the call's memory -/
def GrowM (sz : Nat) (H : List HO) (x : AV) (xs : List AV) : Prop := (xs = [] ∧ (x = .sl .nil [] ∨ x = .sl .exact [])) ∨ ∃ t, x = .sl (.tok t) xs ∧ H[t]? = some (.spare xs.length sz)
theorem GrowM.nil {sz : Nat} {H : List HO} : GrowM sz H (.sl .nil []) [] := .inl ⟨rfl, .inl rfl⟩
theorem GrowM.app0 {α : Type} {f : α → AV} {l m : List α} {sz n k : Nat} {H : List HO} (hl : l = []) (hn : n = m.length) (hk : k = H.length) : GrowM sz (H ++ appJ 0 n sz) (.sl (ownAt n k) (avs f m)) (avs f (l ++ m)) := by
  subst hl hn hk
  rcases Nat.eq_zero_or_pos m.length with h | h
  · have : m = [] := List.eq_nil_of_length_eq_zero h
    subst this
    exact .inl ⟨rfl, .inr rfl⟩
  · rw [ownAt_pos h, appJ_pos h]
    exact .inr ⟨H.length, rfl, by simp⟩
theorem GrowM.appT {α : Type} {f : α → AV} {l m : List α} {sz t n : Nat} {H : List HO} {o : HO} (ht : H[t]? = some o) (hn : n = l.length + m.length) : GrowM sz (H.set t (.spare n sz)) (.sl (.tok t) (avs f (l ++ m))) (avs f (l ++ m)) :=
  .inr ⟨t, rfl, by rw [List.getElem?_set_self (List.getElem?_eq_some_iff.1 ht).1]; simp [hn]⟩
theorem GrowM.app {sz : Nat} {H L : List HO} {x : AV} {xs : List AV} (h : GrowM sz H x xs) : GrowM sz (H ++ L) x xs := by
  rcases h with h | ⟨t, h, ht⟩
  · exact .inl h
  · exact .inr ⟨t, h, getElem?_app ht⟩
theorem GrowM.frz {α : Type} {f : α → AV} [Selfs f] {sz : Nat} {H H' : List HO} {x : AV} {l : List α} (h : GrowM sz H x (avs f l)) : Frz H' x (slA f l) := by
  rcases h with ⟨ge, hg⟩ | ⟨t, rfl, ht⟩
  · rw [avs_eq_nil] at ge
    subst ge
    rcases hg with rfl | rfl <;> exact Frz.slN (f := f) (l := [])
  · exact Frz.slN
end Go.Proofs.Ytcjfjoilgnlemaa.PL
