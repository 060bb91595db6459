/- Conditions, by where they are asked: behind the core, by the program. -/
import Derived.Test.YtcjfjoilgnlemaaFNorm10
import Derived.Test.YtcjfjoilgnlemaaFNorm11
import Derived.Test.YtcjfjoilgnlemaaFNorm12
namespace Go.Proofs.Ytcjfjoilgnlemaa.PL
open Go.Proofs
set_option linter.unusedVariables false
set_option linter.unusedSimpArgs false
set_option maxHeartbeats 2000000 in
theorem T_nlate (f : Frm) (t : Int) (hf : OkF f) (hn : f.on.nodes ≤ 1000000) : T Try.prog 79 [f.av, .int .i64 t] (lateF f t).av := by
  have kp := T_nparts f.on hf.on hn
  have hpl := f.on.parts_len
  have hpo := f.on.parts_ok hf.on
  unfold lateF
  obtain ⟨P, hP⟩ : ∃ P, P = f.on.parts := ⟨_, rfl⟩
  rw [← hP] at kp hpl hpo ⊢
  clear hP
  simp only [Ex'.av_eq] at kp
  refine T.introF (TS.body mix Try.func79 (by kernel_rfl) rfl (by kernel_rfl) (by simp) ?_)
  simp
  refine TS.callW kp (Dws.self (by simp)) ?_
  simp
  refine vc_loop (fun i : Nat => P.length - i) (fun i e H => e 1 = .int .i64 t ∧ e 4 = .ptr 1 0 ∧ e 5 = .ptr 2 0 ∧ e 17 = .sl .no (exprs P) ∧ e 18 = .int .i64 P.length ∧ e 19 = .int .i64 i ∧ i ≤ P.length ∧ LI f t (P.take i) H) 0 ?_ ?_
  · simp
    refine ⟨[.int .i64 0, .int .i64 0, .sl .exact [], .sl .exact [], .sl .exact []], [], .sl .exact [], .sl .exact [], .sl .exact [], none, none, none, ?_⟩
    simp [Gr]
  rintro i e H ⟨e1, e4, e5, e6, e8, e7, hi, c4, J, xk, xs, xr, ok, os, or, rfl, hc4, gk, gs, gr, hd⟩
  by_cases hlt : i < P.length
  · have ew := wrap_next hlt (by omega)
    have hx := hpo P[i] (List.getElem_mem hlt)
    have ka := T_nasEdge P[i] hx.1
    have ku := T_nuses P[i] hx.1 (by omega)
    have hun := usesI_len P[i]
    have nk := filter_next (q := isKey t) hlt
    have nk' : ((P.take (i + 1)).filter (isKey t)).map asEdge = if isKey t P[i] = true then ((P.take i).filter (isKey t)).map asEdge ++ [asEdge P[i]] else ((P.take i).filter (isKey t)).map asEdge := by
      rw [nk]; split <;> simp
    have ns := filter_next (q := isOne t) hlt
    have nr := filter_next (q := isRst t) hlt
    simp only [Ex'.av_eq] at ka ku
    obtain ⟨LK, hLK⟩ : ∃ L, L = ((P.take i).filter (isKey t)).map asEdge := ⟨_, rfl⟩
    obtain ⟨LS, hLS⟩ : ∃ L, L = (P.take i).filter (isOne t) := ⟨_, rfl⟩
    obtain ⟨LR, hLR⟩ : ∃ L, L = (P.take i).filter (isRst t) := ⟨_, rfl⟩
    have bk : LK.length ≤ i := by rw [hLK, List.length_map]; exact Nat.le_trans (List.length_filter_le _ _) (by simp; omega)
    have bs : LS.length ≤ i := by rw [hLS]; exact Nat.le_trans (List.length_filter_le _ _) (by simp; omega)
    have br : LR.length ≤ i := by rw [hLR]; exact Nat.le_trans (List.length_filter_le _ _) (by simp; omega)
    rw [← hLK] at gk nk'
    rw [← hLS] at gs ns
    rw [← hLR] at gr nr
    clear hLK hLS hLR nk
    simp [e1, e4, e5, e6, e8, e7, hlt]
    refine TS.callW ka (Dws.self (by simp)) ?_
    simp [e1, e4, e5, e6, e8, e7, hlt]
    refine TS.callW ku (Dws.self (by simp)) ?_
    cases hk : isKey t P[i] with
    | true =>
      have h1 : isEdge P[i] = true ∧ (asEdge P[i]).b = t := by simpa [isKey] using hk
      have h2 : isOne t P[i] = false := by simp [isOne, hk]
      have h3 : isRst t P[i] = false := by simp [isRst, hk]
      rw [h2] at ns
      rw [h3] at nr
      simp only [Bool.false_eq_true, if_false] at ns nr
      rw [if_pos hk] at nk'
      cases ok with
      | none =>
        obtain ⟨g0, gx⟩ := gk
        rw [avs_eq_nil] at g0
        subst g0
        have e3 : xk.ex = .sl .exact [] := by rcases gx with h | h <;> rw [h] <;> rfl
        simp [e1, e4, e5, e6, e8, e7, hlt, h1, e3]
        refine ⟨i + 1, by omega, ew, by omega, LI.intro c4 _ _ xs xr (some (J.length + 2)) os or rfl hc4 nk' ns nr ⟨?_, by simp⟩ (gs.app _) (gr.app _) hd⟩
        simp [← h1.2]
      | some u =>
        obtain ⟨rfl, gu⟩ := gk
        have hul := (List.getElem?_eq_some_iff.1 gu).1
        have d1 := Gr.ne gs (show Gr 3 4 J _ _ (some u) from ⟨rfl, gu⟩) (by omega) u rfl
        have d2 := Gr.ne gr (show Gr 3 4 J _ _ (some u) from ⟨rfl, gu⟩) (by omega) u rfl
        have gu' : ∀ Y : List HO, (J ++ Y)[u]? = some (.spare LK.length 4) := fun Y => by rw [List.getElem?_append_left hul]; simpa using gu
        simp [e1, e4, e5, e6, e8, e7, hlt, h1, gu']
        refine ⟨⟨by omega, by omega⟩, i + 1, by omega, ew, by omega, LI.intro c4 _ _ xs xr (some u) os or rfl hc4 nk' ns nr ⟨?_, ?_⟩ ((gs.app _).set d1 _) ((gr.app _).set d2 _) hd⟩
        · simp [← h1.2]
        · rw [List.getElem?_set_self (by simp; omega)]; simp
    | false =>
      have h1 : (isEdge P[i] && decide ((asEdge P[i]).b = t)) = false := hk
      rw [hk] at nk'
      simp only [Bool.false_eq_true, if_false] at nk'
      by_cases hu : usesI P[i] = [t]
      · have h2 : isOne t P[i] = true := by simp [isOne, hk, hu]
        have h3 : isRst t P[i] = false := by simp [isRst, hk, hu]
        rw [if_pos h2] at ns
        rw [h3] at nr
        simp only [Bool.false_eq_true, if_false] at nr
        cases os with
        | none =>
          obtain ⟨g0, gx⟩ := gs
          rw [avs_eq_nil] at g0
          subst g0
          have e3 : xs.ex = .sl .exact [] := by rcases gx with h | h <;> rw [h] <;> rfl
          simp [e1, e4, e5, e6, e8, e7, hlt, h1, hu, e3]
          refine ⟨i + 1, by omega, ew, by omega, LI.intro c4 _ xk _ xr ok (some (J.length + 2)) or rfl hc4 nk' ns nr (gk.app _) ⟨?_, by simp⟩ (gr.app _) fun u hu2 hu3 => ?_⟩
          · simp
          · injection hu2 with hu2; have := gr.lt u hu3; omega
        | some u =>
          obtain ⟨rfl, gu⟩ := gs
          have hul := (List.getElem?_eq_some_iff.1 gu).1
          have d1 := Gr.ne gk (show Gr 3 9 J _ _ (some u) from ⟨rfl, gu⟩) (by omega) u rfl
          have d2 : or ≠ some u := hd u rfl
          have gu' : ∀ Y : List HO, (J ++ Y)[u]? = some (.spare LS.length 9) := fun Y => by rw [List.getElem?_append_left hul]; simpa using gu
          simp [e1, e4, e5, e6, e8, e7, hlt, h1, hu, gu']
          refine ⟨⟨by omega, by omega⟩, i + 1, by omega, ew, by omega, LI.intro c4 _ xk _ xr ok (some u) or rfl hc4 nk' ns nr ((gk.app _).set d1 _) ⟨?_, ?_⟩ ((gr.app _).set d2 _) hd⟩
          · exact congrArg _ (exprs_snoc _ _)
          · rw [List.getElem?_set_self (by simp; omega)]; simp
      · have h2 : isOne t P[i] = false := by simp [isOne, hk, hu]
        have h3 : isRst t P[i] = true := by simp [isRst, hk, hu]
        rw [if_pos h3] at nr
        rw [h2] at ns
        simp only [Bool.false_eq_true, if_false] at ns
        obtain ⟨U, hU⟩ : ∃ U, U = usesI P[i] := ⟨_, rfl⟩
        rw [← hU] at hu hun
        match U, hU, hu, hun with
        | [], hU, hu, hun =>
          cases or with
          | none =>
            obtain ⟨g0, gx⟩ := gr
            rw [avs_eq_nil] at g0
            subst g0
            have e3 : xr.ex = .sl .exact [] := by rcases gx with h | h <;> rw [h] <;> rfl
            simp [e1, e4, e5, e6, e8, e7, hlt, h1, ← hU, e3]
            refine ⟨i + 1, by omega, ew, by omega, LI.intro c4 _ xk xs _ ok os (some (J.length + 2)) rfl hc4 nk' ns nr (gk.app _) (gs.app _) ⟨?_, by simp⟩ fun u hu2 hu3 => ?_⟩
            · simp
            · injection hu3 with hu3; have := gs.lt u hu2; omega
          | some u =>
            obtain ⟨rfl, gu⟩ := gr
            have hul := (List.getElem?_eq_some_iff.1 gu).1
            have d1 := Gr.ne gk (show Gr 3 9 J _ _ (some u) from ⟨rfl, gu⟩) (by omega) u rfl
            have d2 : os ≠ some u := fun h => hd u h rfl
            have gu' : ∀ Y : List HO, (J ++ Y)[u]? = some (.spare LR.length 9) := fun Y => by rw [List.getElem?_append_left hul]; simpa using gu
            simp [e1, e4, e5, e6, e8, e7, hlt, h1, ← hU, gu']
            refine ⟨⟨by omega, by omega⟩, i + 1, by omega, ew, by omega, LI.intro c4 _ xk xs _ ok os (some u) rfl hc4 nk' ns nr ((gk.app _).set d1 _) ((gs.app _).set d2 _) ⟨?_, ?_⟩ hd⟩
            · exact congrArg _ (exprs_snoc _ _)
            · rw [List.getElem?_set_self (by simp; omega)]; simp
        | [w], hU, hu, hun =>
          have hw : ¬ w = t := fun h => hu (by rw [h])
          cases or with
          | none =>
            obtain ⟨g0, gx⟩ := gr
            rw [avs_eq_nil] at g0
            subst g0
            have e3 : xr.ex = .sl .exact [] := by rcases gx with h | h <;> rw [h] <;> rfl
            simp [e1, e4, e5, e6, e8, e7, hlt, h1, ← hU, e3, hw]
            refine ⟨i + 1, by omega, ew, by omega, LI.intro c4 _ xk xs _ ok os (some (J.length + 2)) rfl hc4 nk' ns nr (gk.app _) (gs.app _) ⟨?_, by simp⟩ fun u hu2 hu3 => ?_⟩
            · simp
            · injection hu3 with hu3; have := gs.lt u hu2; omega
          | some u =>
            obtain ⟨rfl, gu⟩ := gr
            have hul := (List.getElem?_eq_some_iff.1 gu).1
            have d1 := Gr.ne gk (show Gr 3 9 J _ _ (some u) from ⟨rfl, gu⟩) (by omega) u rfl
            have d2 : os ≠ some u := fun h => hd u h rfl
            have gu' : ∀ Y : List HO, (J ++ Y)[u]? = some (.spare LR.length 9) := fun Y => by rw [List.getElem?_append_left hul]; simpa using gu
            simp [e1, e4, e5, e6, e8, e7, hlt, h1, ← hU, gu', hw]
            refine ⟨⟨by omega, by omega⟩, i + 1, by omega, ew, by omega, LI.intro c4 _ xk xs _ ok os (some u) rfl hc4 nk' ns nr ((gk.app _).set d1 _) ((gs.app _).set d2 _) ⟨?_, ?_⟩ hd⟩
            · exact congrArg _ (exprs_snoc _ _)
            · rw [List.getElem?_set_self (by simp; omega)]; simp
        | w :: w' :: W, hU, hu, hun =>
          have hw : ¬ (W.length : Int) + 1 + 1 = 1 := by omega
          cases or with
          | none =>
            obtain ⟨g0, gx⟩ := gr
            rw [avs_eq_nil] at g0
            subst g0
            have e3 : xr.ex = .sl .exact [] := by rcases gx with h | h <;> rw [h] <;> rfl
            simp [e1, e4, e5, e6, e8, e7, hlt, h1, ← hU, e3, hw]
            refine ⟨i + 1, by omega, ew, by omega, LI.intro c4 _ xk xs _ ok os (some (J.length + 2)) rfl hc4 nk' ns nr (gk.app _) (gs.app _) ⟨?_, by simp⟩ fun u hu2 hu3 => ?_⟩
            · simp
            · injection hu3 with hu3; have := gs.lt u hu2; omega
          | some u =>
            obtain ⟨rfl, gu⟩ := gr
            have hul := (List.getElem?_eq_some_iff.1 gu).1
            have d1 := Gr.ne gk (show Gr 3 9 J _ _ (some u) from ⟨rfl, gu⟩) (by omega) u rfl
            have d2 : os ≠ some u := fun h => hd u h rfl
            have gu' : ∀ Y : List HO, (J ++ Y)[u]? = some (.spare LR.length 9) := fun Y => by rw [List.getElem?_append_left hul]; simpa using gu
            simp [e1, e4, e5, e6, e8, e7, hlt, h1, ← hU, gu', hw]
            refine ⟨⟨by omega, by omega⟩, i + 1, by omega, ew, by omega, LI.intro c4 _ xk xs _ ok os (some u) rfl hc4 nk' ns nr ((gk.app _).set d1 _) ((gs.app _).set d2 _) ⟨?_, ?_⟩ hd⟩
            · exact congrArg _ (exprs_snoc _ _)
            · rw [List.getElem?_set_self (by simp; omega)]; simp
  · have : i = P.length := by omega
    subst this
    rw [List.take_length] at gk gs gr
    obtain ⟨o1, rfl⟩ := gk.own
    obtain ⟨o2, rfl⟩ := gs.own
    obtain ⟨o3, rfl⟩ := gr.own
    match c4, hc4 with
    | [c0, c1, c2, c3, c4], _ =>
    simp [e1, e4, e5, e6, e8, e7]
    exact .agg (.cons (Frz.of_cl2 (by simp)) (.cons (Frz.of_cl2 (by simp)) (.cons (Frz.slN (f := Edg.av)) (.cons (Frz.slN (f := Ex'.av)) (.cons (Frz.slN (f := Ex'.av)) .nil)))))
end Go.Proofs.Ytcjfjoilgnlemaa.PL
