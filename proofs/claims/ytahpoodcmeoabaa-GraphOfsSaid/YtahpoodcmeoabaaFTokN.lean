/- Lists that grow, in a list. -/
import Derived.Test.YtahpoodcmeoabaaFUf4
namespace Go.Proofs.Ytahpoodcmeoabaa.PL
open Go.Proofs
set_option linter.unusedVariables false
set_option linter.unusedSimpArgs false
/-- lists that grow, in a list that grows -/
structure TokN (H : List HO) (L : List (Own × List Nat)) : Prop where
  at' : ∀ (j t : Nat) (c : List Nat), L[j]? = some (Own.tok t, c) → H[t]? = some (HO.spare c.length 1)
  inj : ∀ (j k t : Nat) (c d : List Nat), L[j]? = some (Own.tok t, c) → L[k]? = some (Own.tok t, d) → j = k
  own : ∀ (j : Nat) (o : Own) (c : List Nat), L[j]? = some (o, c) → (∃ t, o = Own.tok t) ∨ o = Own.exact
theorem TokN.nil (H : List HO) : TokN H [] := ⟨fun _ _ _ h => by simp at h, fun _ _ _ _ _ h => by simp at h, fun _ _ _ h => by simp at h⟩
theorem TokN.one (H : List HO) (c : List Nat) : TokN H [(Own.exact, c)] := by
  refine ⟨fun j t d h => ?_, fun j k t d d' h h' => ?_, fun j o d h => ?_⟩
  all_goals
    have hj : j = 0 := by have := (List.getElem?_eq_some_iff.1 h).1; simp at this; omega
    subst hj
    simp at h
  exact .inr h.1.symm
theorem TokN.app {H J : List HO} {L : List (Own × List Nat)} (h : TokN H L) : TokN (H ++ J) L :=
  ⟨fun j t c e => by have := h.at' j t c e; rw [List.getElem?_append_left (List.getElem?_eq_some_iff.1 this).1]; exact this, h.inj, h.own⟩
theorem TokN.push {H : List HO} {L : List (Own × List Nat)} (h : TokN H L) {t : Nat} {c : List Nat} (ht : t = H.length) (hc : c.length = 1) : TokN (H ++ [.spare 1 1]) (L ++ [(.tok t, c)]) := by
  subst ht
  have h1 := h.app (J := [.spare 1 1])
  refine ⟨fun j u d e => ?_, fun j k u d d' e e' => ?_, fun j o d e => ?_⟩
  · by_cases hj : j < L.length
    · rw [List.getElem?_append_left hj] at e; exact h1.at' j u d e
    · obtain rfl : j = L.length := by have := (List.getElem?_eq_some_iff.1 e).1; simp at this; omega
      simp at e
      obtain ⟨rfl, rfl⟩ := e
      simp [hc]
  · have key : ∀ q x, (L ++ [(Own.tok H.length, c)])[q]? = some (.tok u, x) → q < L.length → u < H.length := fun q x e hq => by
      rw [List.getElem?_append_left hq] at e
      exact (List.getElem?_eq_some_iff.1 (h.at' q u x e)).1
    have key2 : ∀ q x, (L ++ [(Own.tok H.length, c)])[q]? = some (.tok u, x) → ¬ q < L.length → q = L.length ∧ u = H.length := fun q x e hq => by
      obtain rfl : q = L.length := by have := (List.getElem?_eq_some_iff.1 e).1; simp at this; omega
      simp at e
      exact ⟨rfl, e.1.symm⟩
    by_cases hj : j < L.length <;> by_cases hk : k < L.length
    · rw [List.getElem?_append_left hj] at e; rw [List.getElem?_append_left hk] at e'; exact h.inj j k u d d' e e'
    · have := key j d e hj; have := (key2 k d' e' hk).2; omega
    · have := key k d' e' hk; have := (key2 j d e hj).2; omega
    · have := (key2 j d e hj).1; have := (key2 k d' e' hk).1; omega
  · by_cases hj : j < L.length
    · rw [List.getElem?_append_left hj] at e; exact h.own j o d e
    · obtain rfl : j = L.length := by have := (List.getElem?_eq_some_iff.1 e).1; simp at this; omega
      simp at e
      exact .inl ⟨_, e.1.symm⟩
theorem TokN.grow {H : List HO} {L : List (Own × List Nat)} (h : TokN H L) {j t : Nat} {c d : List Nat} (hj : L[j]? = some (.tok t, c)) {n : Nat} (hd : n = d.length) : TokN (H.set t (.spare n 1)) (L.set j (.tok t, d)) := by
  subst hd
  have hjl := (List.getElem?_eq_some_iff.1 hj).1
  have htl := (List.getElem?_eq_some_iff.1 (h.at' j t c hj)).1
  have old : ∀ (k : Nat) (o : Own) (x : List Nat), (L.set j (Own.tok t, d))[k]? = some (o, x) → k ≠ j → L[k]? = some (o, x) := fun k o x e hk => by
    rw [List.getElem?_set_ne (fun q => hk q.symm)] at e; exact e
  refine ⟨fun k u x e => ?_, fun k k' u x x' e e' => ?_, fun k o x e => ?_⟩
  · by_cases hk : k = j
    · subst hk
      rw [List.getElem?_set_self hjl] at e
      simp at e
      obtain ⟨rfl, rfl⟩ := e
      rw [List.getElem?_set_self htl]
    · have e2 := old k _ x e hk
      have hne : t ≠ u := fun q => hk (h.inj k j u x c e2 (q ▸ hj))
      rw [List.getElem?_set_ne hne]
      exact h.at' k u x e2
  · have key : ∀ (q : Nat) (x : List Nat), (L.set j (Own.tok t, d))[q]? = some (Own.tok u, x) → ∃ y, L[q]? = some (Own.tok u, y) := fun q x e => by
      by_cases hq : q = j
      · subst hq
        rw [List.getElem?_set_self hjl] at e
        simp at e
        exact ⟨c, by rw [← e.1]; exact hj⟩
      · exact ⟨x, old q _ x e hq⟩
    obtain ⟨y, hy⟩ := key k x e
    obtain ⟨y', hy'⟩ := key k' x' e'
    exact h.inj k k' u y y' hy hy'
  · by_cases hk : k = j
    · subst hk
      rw [List.getElem?_set_self hjl] at e
      simp at e
      exact .inl ⟨_, e.1.symm⟩
    · exact h.own k o x (old k o x e hk)
theorem TokN.other {H : List HO} {L : List (Own × List Nat)} (h : TokN H L) {r : Nat} {o o' : HO} (hr : H[r]? = some o) (hne : ∀ n, o ≠ .spare n 1) : TokN (H.set r o') L :=
  ⟨fun j t c e => by
    have h1 := h.at' j t c e
    have : r ≠ t := fun q => by subst q; rw [hr] at h1; exact hne _ (Option.some.inj h1)
    rw [List.getElem?_set_ne this]
    exact h1, h.inj, h.own⟩

theorem TokN.pushX {H : List HO} {L : List (Own × List Nat)} (h : TokN H L) {c : List Nat} : TokN H (L ++ [(.exact, c)]) := by
  have cs : ∀ (k : Nat) (o : Own) (x : List Nat), (L ++ [(Own.exact, c)])[k]? = some (o, x) → L[k]? = some (o, x) ∨ o = .exact := fun k o x e => by
    by_cases hk : k < L.length
    · rw [List.getElem?_append_left hk] at e; exact .inl e
    · obtain rfl : k = L.length := by have := (List.getElem?_eq_some_iff.1 e).1; simp at this; omega
      simp at e
      exact .inr e.1.symm
  refine ⟨fun k u x e => ?_, fun k k' u x x' e e' => ?_, fun k o x e => ?_⟩
  · rcases cs k _ x e with q | q
    · exact h.at' k u x q
    · cases q
  · rcases cs k _ x e with q | q
    · rcases cs k' _ x' e' with q' | q'
      · exact h.inj k k' u x x' q q'
      · cases q'
    · cases q
  · rcases cs k o x e with q | q
    · exact h.own k o x q
    · exact .inr q
theorem TokN.fresh {H : List HO} {L : List (Own × List Nat)} (h : TokN H L) {j t n : Nat} {d : List Nat} (ht : t = H.length) (hj : j < L.length) (hd : n = d.length) : TokN (H ++ [.spare n 1]) (L.set j (.tok t, d)) := by
  subst hd; subst ht
  have h1 := h.app (J := [.spare d.length 1])
  have cs : ∀ (k : Nat) (o : Own) (x : List Nat), (L.set j (Own.tok H.length, d))[k]? = some (o, x) → (k = j ∧ o = .tok H.length ∧ x = d) ∨ (k ≠ j ∧ L[k]? = some (o, x)) := fun k o x e => by
    by_cases hk : k = j
    · subst hk
      rw [List.getElem?_set_self hj] at e
      simp at e
      exact .inl ⟨rfl, e.1.symm, e.2.symm⟩
    · rw [List.getElem?_set_ne (fun q => hk q.symm)] at e
      exact .inr ⟨hk, e⟩
  refine ⟨fun k u x e => ?_, fun k k' u x x' e e' => ?_, fun k o x e => ?_⟩
  · rcases cs k _ x e with ⟨_, q, rfl⟩ | ⟨_, q⟩
    · cases q; simp
    · exact h1.at' k u x q
  · rcases cs k _ x e with ⟨e1, q, _⟩ | ⟨e1, q⟩ <;> rcases cs k' _ x' e' with ⟨e2, q', _⟩ | ⟨e2, q'⟩
    · omega
    · cases q
      have := (List.getElem?_eq_some_iff.1 (h.at' k' _ x' q')).1
      omega
    · cases q'
      have := (List.getElem?_eq_some_iff.1 (h.at' k _ x q)).1
      omega
    · exact h.inj k k' u x x' q q'
  · rcases cs k o x e with ⟨_, q, _⟩ | ⟨_, q⟩
    · exact .inl ⟨_, q⟩
    · exact h.own k o x q
theorem avs_putN {L : List (Own × List Nat)} {j : Nat} (hj : j < L.length) {o : Own} {d : List Nat} : avs (oslA natA) (L.take j) ++ AV.sl o (avs natA d) :: avs (oslA natA) (L.drop (j + 1)) = avs (oslA natA) (L.set j (o, d)) := by
  rw [List.set_eq_take_append_cons_drop, if_pos hj]
  simp [avs, oslA]
end Go.Proofs.Ytahpoodcmeoabaa.PL
