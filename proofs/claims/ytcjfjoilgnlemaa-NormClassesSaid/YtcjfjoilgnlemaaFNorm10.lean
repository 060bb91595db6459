/- Conditions, by where they are asked: the program's parts, edges, core. -/
import Derived.Test.YtcjfjoilgnlemaaFNorm5
namespace Go.Proofs.Ytcjfjoilgnlemaa.PL
open Go.Proofs
set_option linter.unusedVariables false
set_option linter.unusedSimpArgs false
/-- its list stands in what it has made -/
def PX (k sz : Nat) (J : List HO) (x : AV) (xs : List AV) : Prop := (xs = [] ∧ x = .sl .nil []) ∨ x = .sl .exact xs ∨ ∃ t, x = .sl (.tok (t + k)) xs ∧ J[t]? = some (.spare xs.length sz)
theorem PX.own {k sz : Nat} {J : List HO} {x : AV} {xs : List AV} (h : PX k sz J x xs) : ∃ own, x = .sl own xs := by
  rcases h with ⟨rfl, h⟩ | h | ⟨t, h, _⟩ <;> exact ⟨_, h⟩
set_option maxHeartbeats 1000000 in
theorem S_nparts (e : Ex') : OkE e → e.nodes ≤ 1000000 → ∀ H : List HO, ∃ r J, TS Try.prog 39 [e.av] H (pt r (H ++ J)) ∧ PX H.length 9 J r (exprs e.parts) := by
  induction e using Ex'.ind with
  | h a ih =>
  intro ha hn H
  have hal := ha.len
  rw [Ex'.nodes_eq] at hn
  rw [Ex'.parts_eq]
  by_cases h0 : a.op = 0
  · rw [if_pos h0]
    refine ⟨.sl .nil [], [.box a.cs], ?_, .inl ⟨rfl, rfl⟩⟩
    refine TS.bodyM [100004, 2000404, 2000409, 1040401, 1040403, 1040901, 1040903, 1040906, 1040908, 1041001, 1041003, 1041006, 1041008] mix Try.func39 (by kernel_rfl) rfl (by kernel_rfl) (by simp) ?_
    simp [h0]
  rw [if_neg h0]
  by_cases h1 : a.op = 10 ∧ a.l.length = 2
  case neg =>
    rw [if_neg h1]
    refine ⟨.sl .exact [a.av], [.box a.cs], ?_, .inr (.inl rfl)⟩
    refine TS.bodyM [100004, 2000404, 2000409, 1040401, 1040403, 1040901, 1040903, 1040906, 1040908, 1041001, 1041003, 1041006, 1041008] mix Try.func39 (by kernel_rfl) rfl (by kernel_rfl) (by simp) ?_
    by_cases h2 : a.op = 10
    · have h3 : ¬ (a.l.length : Int) = 2 := fun h => h1 ⟨h2, by omega⟩
      simp [h0, h2, h3]
    · simp [h0, h2]
  rw [if_pos h1]
  obtain ⟨h2, h3⟩ := h1
  have h3' : (a.l.length : Int) = 2 := by omega
  match hal2 : a.l, h3 with
  | [x, y], _ =>
  have hx : x ∈ a.l := by rw [hal2]; simp
  have hy : y ∈ a.l := by rw [hal2]; simp
  have hnl : Ex'.nodesL a.l = x.nodes + y.nodes := by rw [hal2]; simp [Ex'.nodesL]
  obtain ⟨r1, J1, t1, p1⟩ := ih x hx (ha.sub hx) (by omega) (H ++ [.box a.cs])
  obtain ⟨r2, J2, t2, p2⟩ := ih y hy (ha.sub hy) (by omega) (H ++ [.box a.cs] ++ J1)
  have bx := x.parts_len
  have by' := y.parts_len
  have hp : Ex'.partsL [x, y] = x.parts ++ y.parts := by simp [Ex'.partsL]
  rw [hp]
  generalize x.parts = X at *
  generalize y.parts = Y at *
  obtain ⟨o2, rfl⟩ := p2.own
  simp only [Ex'.av_eq] at t1 t2
  have key : ∀ r J, (TS Try.prog 39 [a.av] H (pt r (H ++ J)) → PX H.length 9 J r (exprs (X ++ Y)) → ∃ r J, TS Try.prog 39 [a.av] H (pt r (H ++ J)) ∧ PX H.length 9 J r (exprs (X ++ Y))) := fun r J h h' => ⟨r, J, h, h'⟩
  simp only [List.append_assoc, List.singleton_append] at t2
  rcases p1 with ⟨q1, rfl⟩ | rfl | ⟨t, rfl, ht⟩
  · rw [avs_eq_nil] at q1
    subst q1
    refine key (.sl (ownAt Y.length (H.length + 1 + J1.length + J2.length)) (exprs Y)) ([.box a.cs] ++ J1 ++ J2 ++ appJ 0 Y.length 9) ?_ ?_
    · refine TS.bodyM [100004, 2000404, 2000409, 1040401, 1040403, 1040901, 1040903, 1040906, 1040908, 1041001, 1041003, 1041006, 1041008] mix Try.func39 (by kernel_rfl) rfl (by kernel_rfl) (by simp) ?_
      simp [h2, h3', hal2]
      refine TWK.call t1 ?_
      simp [h2, h3', hal2]
      refine TWK.call t2 ?_
      simp [h2, h3', hal2]
      refine ⟨⟨by omega, by omega⟩, ?_⟩
      congr 1
      omega
    · rw [List.nil_append]
      by_cases hY : Y = []
      · subst hY
        exact .inr (.inl (by simp))
      · have : 0 < Y.length := List.length_pos_iff.2 hY
        refine .inr (.inr ⟨1 + J1.length + J2.length, ?_, ?_⟩)
        · simp [this]; omega
        · simp [this]
          rw [show 1 + J1.length + J2.length = (J1.length + J2.length) + 1 by omega, List.getElem?_cons_succ, ← List.append_assoc, List.getElem?_append_right (by simp)]
          simp
  · by_cases hY : Y = []
    · subst hY
      refine key (.sl .exact (exprs X)) ([.box a.cs] ++ J1 ++ J2) ?_ (.inr (.inl (by simp)))
      refine TS.bodyM [100004, 2000404, 2000409, 1040401, 1040403, 1040901, 1040903, 1040906, 1040908, 1041001, 1041003, 1041006, 1041008] mix Try.func39 (by kernel_rfl) rfl (by kernel_rfl) (by simp) ?_
      simp [h2, h3', hal2]
      refine TWK.call t1 ?_
      simp [h2, h3', hal2]
      refine TWK.call t2 ?_
      simp [h2, h3', hal2]
      exact ⟨by omega, by omega⟩
    · have hYl : 0 < Y.length := List.length_pos_iff.2 hY
      refine key (.sl (.tok (H.length + (J1.length + J2.length + 1))) (exprs (X ++ Y))) ([.box a.cs] ++ J1 ++ J2 ++ [.spare (X.length + Y.length) 9]) ?_ ?_
      · refine TS.bodyM [100004, 2000404, 2000409, 1040401, 1040403, 1040901, 1040903, 1040906, 1040908, 1041001, 1041003, 1041006, 1041008] mix Try.func39 (by kernel_rfl) rfl (by kernel_rfl) (by simp) ?_
        simp [h2, h3', hal2]
        refine TWK.call t1 ?_
        simp [h2, h3', hal2]
        refine TWK.call t2 ?_
        simp [h2, h3', hal2, hYl, hY]
        exact ⟨by omega, by omega⟩
      · refine .inr (.inr ⟨1 + J1.length + J2.length, ?_, ?_⟩)
        · congr 2; omega
        · simp
          rw [show 1 + J1.length + J2.length = (J1.length + J2.length) + 1 by omega, List.getElem?_cons_succ, ← List.append_assoc, List.getElem?_append_right (by simp)]
          simp
  · have htk : (H ++ HO.box a.cs :: (J1 ++ J2))[t + (H.length + 1)]? = some (.spare X.length 9) := by
      have h1 := (List.getElem?_eq_some_iff.1 ht).1
      rw [List.getElem?_append_right (by omega), show t + (H.length + 1) - H.length = t + 1 by omega, List.getElem?_cons_succ, List.getElem?_append_left h1, ht]
      simp
    have htl := (List.getElem?_eq_some_iff.1 ht).1
    have hset : ∀ y, (H ++ HO.box a.cs :: (J1 ++ J2)).set (t + (H.length + 1)) y = H ++ HO.box a.cs :: (J1 ++ J2).set t y := fun y => by
      rw [List.set_append_right _ _ (by omega), show t + (H.length + 1) - H.length = t + 1 by omega, List.set_cons_succ]
    refine key (.sl (.tok (t + (H.length + 1))) (exprs (X ++ Y))) (.box a.cs :: (J1 ++ J2).set t (.spare (X.length + Y.length) 9)) ?_ ?_
    · refine TS.bodyM [100004, 2000404, 2000409, 1040401, 1040403, 1040901, 1040903, 1040906, 1040908, 1041001, 1041003, 1041006, 1041008] mix Try.func39 (by kernel_rfl) rfl (by kernel_rfl) (by simp) ?_
      simp [h2, h3', hal2]
      refine TWK.call t1 ?_
      simp [h2, h3', hal2]
      refine TWK.call t2 ?_
      simp [h2, h3', hal2, htk, hset]
      exact ⟨by omega, by omega⟩
    · refine .inr (.inr ⟨t + 1, ?_, ?_⟩)
      · congr 2; omega
      · rw [List.getElem?_cons_succ, List.getElem?_set_self (by simp; omega)]
        simp
theorem T_nparts (e : Ex') (he : OkE e) (hn : e.nodes ≤ 1000000) : T Try.prog 39 [e.av] (.sl .no (exprs e.parts)) := by
  obtain ⟨r, J, h, hp⟩ := S_nparts e he hn []
  refine T.introF (h.mono ?_)
  rintro _ _ ⟨rfl, rfl⟩
  obtain ⟨own, rfl⟩ := hp.own
  exact Frz.slN (f := Ex'.av)
end Go.Proofs.Ytcjfjoilgnlemaa.PL
