/- Relations: both together, by the reference. -/
import Derived.Test.YtjplcdeaedflpaaDoorFRel9
namespace Go.Proofs.YtjplcdeaedflpaaDoor.PL
open Go.Proofs
set_option linter.unusedVariables false
set_option linter.unusedSimpArgs false
/-- the memory while rows are put together -/
structure JR (a b : Rel) (U : List Int) (R : List (Own × List Val)) (M : List HO) : Prop where
  g0 : M[3]? = some (.box a.cs)
  g1 : M[4]? = some (.box b.cs)
  g2 : ∃ c2 : List AV, c2.length = 2 ∧ M[2]? = some (.box c2)
  g7 : ∃ x, M[7]? = some (.box [.sl .no (ints' U), x]) ∧ ((R = [] ∧ (x = .sl .nil [] ∨ x = .sl .exact [])) ∨ ∃ t, x = .sl (.tok t) (orows R) ∧ M[t]? = some (.spare R.length 1))
namespace JR
variable {a b : Rel} {U : List Int} {R : List (Own × List Val)} {M : List HO}
theorem app (h : JR a b U R M) (J : List HO) : JR a b U R (M ++ J) := by
  have e : ∀ {i : Nat} {o : HO}, M[i]? = some o → (M ++ J)[i]? = some o := fun {i o} hi => by rw [List.getElem?_append_left (List.getElem?_eq_some_iff.1 hi).1]; exact hi
  obtain ⟨c2, h2, g2⟩ := h.g2
  obtain ⟨x, g7, hx⟩ := h.g7
  refine ⟨e h.g0, e h.g1, ⟨c2, h2, e g2⟩, x, e g7, ?_⟩
  rcases hx with hx | ⟨t, hx, ht⟩
  · exact .inl hx
  · exact .inr ⟨t, hx, e ht⟩
theorem first (h : JR a b U [] M) {r : List Val} {own : Own} {k : Nat} (hk : k = M.length) : JR a b U [(own, r)] ((M ++ [HO.spare 1 1]).set 7 (.box [.sl .no (ints' U), .sl (.tok k) [.sl own (vals' r)]])) := by
  subst hk
  have h1 := h.app [HO.spare 1 1]
  have hl : 7 < M.length := by obtain ⟨x, g7, _⟩ := h.g7; exact (List.getElem?_eq_some_iff.1 g7).1
  have e : ∀ {i : Nat} (z : HO), i ≠ 7 → ((M ++ [HO.spare 1 1]).set 7 z)[i]? = (M ++ [HO.spare 1 1])[i]? := fun {i} z hi => List.getElem?_set_ne (Ne.symm hi)
  refine ⟨?_, ?_, ?_, _, List.getElem?_set_self (by simp; omega), .inr ⟨M.length, by simp [avs], ?_⟩⟩
  · rw [e _ (by omega)]; exact h1.g0
  · rw [e _ (by omega)]; exact h1.g1
  · rw [e _ (by omega)]; exact h1.g2
  · rw [e _ (by omega)]; simp
theorem more (h : JR a b U R M) {x : AV} {t n : Nat} (g7 : M[7]? = some (.box [.sl .no (ints' U), x])) (ht : M[t]? = some (.spare R.length 1)) {r : List Val} {own : Own} (hn : n = R.length + 1) : JR a b U (R ++ [(own, r)]) ((M.set t (.spare n 1)).set 7 (.box [.sl .no (ints' U), .sl (.tok t) (orows R ++ [.sl own (vals' r)])])) := by
  subst hn
  have hl := (List.getElem?_eq_some_iff.1 g7).1
  have htl := (List.getElem?_eq_some_iff.1 ht).1
  have ht7 : 7 ≠ t := by rintro rfl; rw [g7] at ht; cases ht
  have e : ∀ {i : Nat} {o : HO} (z : HO), M[i]? = some o → i ≠ 7 → (∀ n, o ≠ .spare n 1) → ((M.set t (.spare (R.length + 1) 1)).set 7 z)[i]? = some o := fun {i o} z hi h7 ho => by
    have : i ≠ t := by rintro rfl; rw [ht] at hi; exact ho _ (Option.some.inj hi).symm
    rw [List.getElem?_set_ne (Ne.symm h7), List.getElem?_set_ne (Ne.symm this)]
    exact hi
  obtain ⟨c2, h2, g2⟩ := h.g2
  refine ⟨e _ h.g0 (by omega) (by simp), e _ h.g1 (by omega) (by simp), ⟨c2, h2, e _ g2 (by omega) (by simp)⟩, _, List.getElem?_set_self (by simp; omega), .inr ⟨t, by simp [avs, oslA], ?_⟩⟩
  rw [List.getElem?_set_ne ht7, List.getElem?_set_self htl]
  simp
end JR
theorem share {G X : Prop} (x : X) (f : X → G) : G := f x
theorem lts_ints (l : List Int) (k : Nat) : AV.lts k (avs (AV.int .i64) l) = true := by
  induction l with
  | nil => rfl
  | cons a l ih => simp [avs, AV.lts, AV.lt]; simpa [avs] using ih
theorem filter_row {a b : Rel} {x : List Val} {k : Nat} (h : k < b.rows.length) : ((b.rows.take (k + 1)).filter fun y => meetB a b x y).map (rowJ a b x) = ((b.rows.take k).filter fun y => meetB a b x y).map (rowJ a b x) ++ if meetB a b x b.rows[k] = true then [rowJ a b x b.rows[k]] else [] := by
  rw [filter_nextR h, List.map_append]
  by_cases hm : meetB a b x b.rows[k] = true
  · rw [if_pos hm, if_pos hm]; rfl
  · rw [if_neg hm, if_neg hm]; rfl

end Go.Proofs.YtjplcdeaedflpaaDoor.PL
