/- Conditions, by where they are asked: the program's edges, core. -/
import Derived.Test.YtcjfjoilgnlemaaFNorm5
namespace Go.Proofs.Ytcjfjoilgnlemaa.PL
open Go.Proofs
set_option linter.unusedVariables false
set_option linter.unusedSimpArgs false
set_option maxRecDepth 4000 in
set_option maxHeartbeats 1000000 in
theorem T_nasEdge (e : Ex') (he : OkE e) : T Try.prog 29 [e.av] (.tup [(asEdge e).av, .bool (isEdge e)]) := by
  refine T.introF (TS.bodyM [300003, 1031000, 1031001, 1031002, 1031003, 1031008, 1031009, 1031100, 1031101, 1031102, 1031103, 1031104, 1031105, 1031106, 1031107, 1031108, 1031109, 1031110] mix Try.func29 (by kernel_rfl) rfl (by kernel_rfl) (by simp) ?_)
  obtain ⟨op, tab, name, t, c, v, l⟩ := e
  match l with
  | [] =>
    have h0 : isEdge (Ex'.mk op tab name t c v []) = false := rfl
    rw [asEdge_no h0, h0]
    by_cases h1 : op = 1 <;> simp [h1] <;> exact edF rfl rfl
  | [x] =>
    have h0 : isEdge (Ex'.mk op tab name t c v [x]) = false := rfl
    rw [asEdge_no h0, h0]
    by_cases h1 : op = 1 <;> simp [h1] <;> exact edF rfl rfl
  | x :: y :: z :: l =>
    have h0 : isEdge (Ex'.mk op tab name t c v (x :: y :: z :: l)) = false := rfl
    rw [asEdge_no h0, h0]
    have h2 : ¬ (l.length : Int) + 1 + 1 + 1 = 2 := by omega
    by_cases h1 : op = 1
    · simp [h1, h2]
      exact edF rfl rfl
    · simp [h1]
      exact edF rfl rfl
  | [x, y] =>
    have hE : isEdge (Ex'.mk op tab name t c v [x, y]) = (decide (op = 1) && decide (x.op = 15) && decide (y.op = 15) && !decide (x.t = y.t)) := rfl
    obtain ⟨xop, xtab, xname, xt, xc, xv, xl⟩ := x
    obtain ⟨yop, ytab, yname, yt, yc, yv, yl⟩ := y
    by_cases h1 : op = 1 ∧ xop = 15 ∧ yop = 15 ∧ ¬ xt = yt
    · obtain ⟨rfl, rfl, rfl, h4⟩ := h1
      have hE : isEdge (Ex'.mk 1 tab name t c v [Ex'.mk 15 xtab xname xt xc xv xl, Ex'.mk 15 ytab yname yt yc yv yl]) = true := by rw [hE]; simp [h4]
      by_cases hw : xt < yt
      · have hA : asEdge (Ex'.mk 1 tab name t c v [Ex'.mk 15 xtab xname xt xc xv xl, Ex'.mk 15 ytab yname yt yc yv yl]) = ⟨xt, xc, yt, yc⟩ := by simp [asEdge, hE, hw]
        have hw2 : ¬ yt < xt := by omega
        have h4' : ¬ yt = xt := fun h => h4 h.symm
        rw [hE, hA]
        simp [h4, h4', hw, hw2]
        exact edF rfl rfl
      · have hA : asEdge (Ex'.mk 1 tab name t c v [Ex'.mk 15 xtab xname xt xc xv xl, Ex'.mk 15 ytab yname yt yc yv yl]) = ⟨yt, yc, xt, xc⟩ := by simp [asEdge, hE, hw]
        have hw2 : yt < xt := by omega
        have h4' : ¬ yt = xt := fun h => h4 h.symm
        rw [hE, hA]
        simp [h4, h4', hw, hw2]
        exact edF rfl rfl
    · have h0 : isEdge (Ex'.mk op tab name t c v [Ex'.mk xop xtab xname xt xc xv xl, Ex'.mk yop ytab yname yt yc yv yl]) = false := by
        rw [hE]
        simp
        exact fun a b c => decide_eq_true (Classical.byContradiction fun h => h1 ⟨a, of_decide_eq_true b, of_decide_eq_true c, fun h' => h h'⟩)
      rw [asEdge_no h0, h0]
      by_cases h2 : op = 1
      · by_cases h3 : xop = 15
        · by_cases h4 : yop = 15
          · have h5 : xt = yt := Classical.byContradiction fun h => h1 ⟨h2, h3, h4, h⟩
            simp [h2, h3, h4, h5]
            exact edF rfl rfl
          · simp [h2, h3, h4]
            exact edF rfl rfl
        · simp [h2, h3]
          exact edF rfl rfl
      · simp [h2]
        exact edF rfl rfl
theorem T_ncore (q : Qry) (hl : q.frm.length < 4611686018427387904) : T Try.prog 36 [q.av] (.int .i64 (coreF q.frm)) := by
  refine T.intro (TS.body mix Try.func36 (by kernel_rfl) rfl (by kernel_rfl) (by simp) ?_)
  simp
  refine vc_loop (fun i : Nat => q.frm.length - i) (fun i e H => e 1 = .ptr 0 0 ∧ e 6 = .sl .no (frms q.frm) ∧ e 7 = .int .i64 q.frm.length ∧ e 8 = .int .i64 i ∧ i ≤ q.frm.length ∧ (∀ j (h : j < q.frm.length), 0 < j → j < i → (q.frm[j]).kind = 1) ∧ ∃ J, H = .box q.cs :: J) 0 ?_ ?_
  · simp
  rintro i e H ⟨e1, e6, e7, e8, hi, hlo, J, rfl⟩
  by_cases hlt : i < q.frm.length
  · have ew := wrap_next hlt (by omega)
    have hne : q.frm ≠ [] := by intro h; rw [h] at hlt; simp at hlt
    by_cases h0 : i = 0
    · subst h0
      simp [e1, e6, e7, e8, hlt, hne]
      exact ⟨1, by omega, rfl, by omega, fun j a b c => by omega⟩
    · have h00 : 0 < i := by omega
      by_cases hk : (q.frm[i]).kind = 1
      · simp [e1, e6, e7, e8, hlt, h00, hk]
        refine ⟨i + 1, by omega, ew, by omega, fun j a b c => ?_⟩
        rcases Nat.lt_or_ge j i with h | h
        · exact hlo j a b h
        · have : j = i := by omega
          subst this; exact hk
      · rw [coreF_at hi (fun _ => by omega) hlo fun _ => hk]
        simp [e1, e6, e7, e8, hlt, h00, hk]
  · have : i = q.frm.length := by omega
    rw [coreF_at hi (fun h => by rw [this]; exact List.length_pos_iff.2 h) hlo fun h => absurd h hlt]
    simp [e1, e6, e7, e8, this]
end Go.Proofs.Ytcjfjoilgnlemaa.PL
