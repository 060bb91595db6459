/- Conditions, by where they are asked: behind the core. -/
import Derived.Test.YtcjfjoilgnlemaaFNorm3
namespace Go.Proofs.Ytcjfjoilgnlemaa.PL
open Go.Proofs
set_option linter.unusedVariables false
set_option linter.unusedSimpArgs false
theorem filter_next {α : Type} {q : α → Bool} {l : List α} {i : Nat} (h : i < l.length) : (l.take (i + 1)).filter q = if q l[i] = true then (l.take i).filter q ++ [l[i]] else (l.take i).filter q := by
  rw [take_next h, List.filter_append]
  by_cases hq : q l[i] = true
  · rw [if_pos hq]; simp [hq]
  · rw [if_neg hq]; simp [hq]
/-- a list that grows in memory, and its place -/
def Gr (k sz : Nat) (J : List HO) (x : AV) (xs : List AV) : Option Nat → Prop
  | none => xs = [] ∧ (x = .sl .nil [] ∨ x = .sl .exact [])
  | some t => x = .sl (.tok (t + k)) xs ∧ J[t]? = some (.spare xs.length sz)
namespace Gr
variable {k sz : Nat} {J : List HO} {x : AV} {xs : List AV} {o : Option Nat}
theorem app (h : Gr k sz J x xs o) (Y : List HO) : Gr k sz (J ++ Y) x xs o := by
  cases o with
  | none => exact h
  | some t => exact ⟨h.1, by rw [List.getElem?_append_left (List.getElem?_eq_some_iff.1 h.2).1]; exact h.2⟩
theorem set (h : Gr k sz J x xs o) {t : Nat} (ht : o ≠ some t) (y : HO) : Gr k sz (J.set t y) x xs o := by
  cases o with
  | none => exact h
  | some u => exact ⟨h.1, by rw [List.getElem?_set_ne (fun e => ht (by rw [e]))]; exact h.2⟩
theorem lt (h : Gr k sz J x xs o) : ∀ t, o = some t → t < J.length := by
  rintro t rfl
  exact (List.getElem?_eq_some_iff.1 h.2).1
theorem own (h : Gr k sz J x xs o) : ∃ own, x = .sl own xs := by
  cases o with
  | none => obtain ⟨rfl, h | h⟩ := h <;> exact ⟨_, h⟩
  | some t => exact ⟨_, h.1⟩
theorem ne {sz' : Nat} {x' : AV} {xs' : List AV} {o' : Option Nat} (h : Gr k sz J x xs o) (h' : Gr k sz' J x' xs' o') (hs : sz ≠ sz') : ∀ t, o' = some t → o ≠ some t := by
  rintro t rfl rfl
  have a := h.2
  have b := h'.2
  rw [a] at b
  injection b with b
  injection b with _ b
  exact hs b
theorem more {α : Type} {f : α → AV} {l : List α} {a : α} {t n : Nat} (ht : J[t]? = some (.spare (avs f l).length sz)) (hn : n = l.length + 1) : Gr k sz (J.set t (.spare n sz)) (.sl (.tok (t + k)) (avs f (l ++ [a]))) (avs f (l ++ [a])) (some t) :=
  ⟨rfl, by rw [List.getElem?_set_self (List.getElem?_eq_some_iff.1 ht).1]; simp [hn]⟩
end Gr
structure Lt where
  t : Int
  join : Int
  keys : List Edg
  scan : List Ex'
  rest : List Ex'
abbrev Lt.cs (x : Lt) : List AV := [.int .i64 x.t, .int .i64 x.join, .sl .no (edgs x.keys), .sl .no (exprs x.scan), .sl .no (exprs x.rest)]
abbrev Lt.av (x : Lt) : AV := .agg x.cs
instance : Sized Lt.av 5 := ⟨fun _ => rfl⟩
instance : Plain Lt.av := ⟨fun x => by simp [AV.pl, AV.pls]⟩
abbrev ltsA (l : List Lt) : List AV := avs Lt.av l
def isKey (t : Int) (e : Ex') : Bool := isEdge e && decide ((asEdge e).b = t)
def isOne (t : Int) (e : Ex') : Bool := !isKey t e && decide (usesI e = [t])
def isRst (t : Int) (e : Ex') : Bool := !isKey t e && !decide (usesI e = [t])
def lateF (f : Frm) (t : Int) : Lt := ⟨t, f.kind, (f.on.parts.filter (isKey t)).map asEdge, f.on.parts.filter (isOne t), f.on.parts.filter (isRst t)⟩
theorem exprs_snoc (L : List Ex') (x : Ex') : exprs L ++ [.agg x.cs] = exprs (L ++ [x]) := by simp [avs]
instance : Selfs Edg.av := ⟨fun a x h => by simp at h; rcases h with rfl | rfl | rfl | rfl <;> simp⟩
/-- what stands in memory after some of the parts -/
def LI (f : Frm) (t : Int) (L : List Ex') (H : List HO) : Prop := ∃ c4 J xk xs xr ok os or, H = .box f.cs :: .box c4 :: .box [.int .i64 t, .int .i64 f.kind, xk, xs, xr] :: J ∧ c4.length = 5 ∧ Gr 3 4 J xk (edgs ((L.filter (isKey t)).map asEdge)) ok ∧ Gr 3 9 J xs (exprs (L.filter (isOne t))) os ∧ Gr 3 9 J xr (exprs (L.filter (isRst t))) or ∧ ∀ u, os = some u → or ≠ some u
theorem LI.intro {f : Frm} {t : Int} {L : List Ex'} {H : List HO} (c4 J xk xs xr ok os or) (h : H = .box f.cs :: .box c4 :: .box [.int .i64 t, .int .i64 f.kind, xk, xs, xr] :: J) (h' : c4.length = 5) {lk ls lr} (ek : ((L.filter (isKey t)).map asEdge) = lk) (es : L.filter (isOne t) = ls) (er : L.filter (isRst t) = lr) (gk : Gr 3 4 J xk (edgs lk) ok) (gs : Gr 3 9 J xs (exprs ls) os) (gr : Gr 3 9 J xr (exprs lr) or) (hd : ∀ u, os = some u → or ≠ some u) : LI f t L H := by
  subst ek es er
  exact ⟨c4, J, xk, xs, xr, ok, os, or, h, h', gk, gs, gr, hd⟩
set_option maxHeartbeats 2000000 in
theorem T_rlate (f : Frm) (t : Int) (hf : OkF f) (hn : f.on.nodes ≤ 1000000) : T Try.prog 81 [f.av, .int .i64 t] (lateF f t).av := by
  have kp := T_rparts f.on hf.on hn
  have hpl := f.on.parts_len
  have hpo := f.on.parts_ok hf.on
  unfold lateF
  obtain ⟨P, hP⟩ : ∃ P, P = f.on.parts := ⟨_, rfl⟩
  rw [← hP] at kp hpl hpo ⊢
  clear hP
  simp only [Ex'.av_eq] at kp
  refine T.introF (TS.body mix Try.func81 (by kernel_rfl) rfl (by kernel_rfl) (by simp) ?_)
  simp
  refine TS.callW kp (Dws.self (by simp)) ?_
  simp
  refine vc_loop (fun i : Nat => P.length - i) (fun i e H => e 1 = .int .i64 t ∧ e 4 = .ptr 1 0 ∧ e 5 = .ptr 2 0 ∧ e 6 = .sl .no (exprs P) ∧ e 7 = .int .i64 i ∧ i ≤ P.length ∧ LI f t (P.take i) H) 0 ?_ ?_
  · simp
    refine ⟨[.int .i64 0, .int .i64 0, .sl .exact [], .sl .exact [], .sl .exact []], [], .sl .exact [], .sl .exact [], .sl .exact [], none, none, none, ?_⟩
    simp [Gr]
  rintro i e H ⟨e1, e4, e5, e6, e7, hi, c4, J, xk, xs, xr, ok, os, or, rfl, hc4, gk, gs, gr, hd⟩
  by_cases hlt : i < P.length
  · have ew := wrap_next hlt (by omega)
    have hx := hpo P[i] (List.getElem_mem hlt)
    have ka := T_rasEdge P[i] hx.1
    have ku := T_ruses P[i] hx.1 (by omega)
    have hun := usesI_len P[i]
    have nk := filter_next (q := isKey t) hlt
    have nk' : ((P.take (i + 1)).filter (isKey t)).map asEdge = if isKey t P[i] = true then ((P.take i).filter (isKey t)).map asEdge ++ [asEdge P[i]] else ((P.take i).filter (isKey t)).map asEdge := by
      rw [nk]; split <;> simp
    have ns := filter_next (q := isOne t) hlt
    have nr := filter_next (q := isRst t) hlt
    simp only [Ex'.av_eq] at ka ku
    obtain ⟨LK, hLK⟩ : ∃ L, L = ((P.take i).filter (isKey t)).map asEdge := ⟨_, rfl⟩
    obtain ⟨LS, hLS⟩ : ∃ L, L = (P.take i).filter (isOne t) := ⟨_, rfl⟩
    obtain ⟨LR, hLR⟩ : ∃ L, L = (P.take i).filter (isRst t) := ⟨_, rfl⟩
    have bk : LK.length ≤ i := by rw [hLK, List.length_map]; exact Nat.le_trans (List.length_filter_le _ _) (by simp; omega)
    have bs : LS.length ≤ i := by rw [hLS]; exact Nat.le_trans (List.length_filter_le _ _) (by simp; omega)
    have br : LR.length ≤ i := by rw [hLR]; exact Nat.le_trans (List.length_filter_le _ _) (by simp; omega)
    rw [← hLK] at gk nk'
    rw [← hLS] at gs ns
    rw [← hLR] at gr nr
    clear hLK hLS hLR nk
    simp [e1, e4, e5, e6, e7, hlt]
    refine TS.callW ka (Dws.self (by simp)) ?_
    simp [e1, e4, e5, e6, e7, hlt]
    refine TS.callW ku (Dws.self (by simp)) ?_
    cases hk : isKey t P[i] with
    | true =>
      have h1 : isEdge P[i] = true ∧ (asEdge P[i]).b = t := by simpa [isKey] using hk
      have h2 : isOne t P[i] = false := by simp [isOne, hk]
      have h3 : isRst t P[i] = false := by simp [isRst, hk]
      rw [h2] at ns
      rw [h3] at nr
      simp only [Bool.false_eq_true, if_false] at ns nr
      rw [if_pos hk] at nk'
      cases ok with
      | none =>
        obtain ⟨g0, gx⟩ := gk
        rw [avs_eq_nil] at g0
        subst g0
        have e3 : xk.ex = .sl .exact [] := by rcases gx with h | h <;> rw [h] <;> rfl
        simp [e1, e4, e5, e6, e7, hlt, h1, e3]
        refine ⟨i + 1, by omega, ew, by omega, LI.intro c4 _ _ xs xr (some (J.length + 1)) os or rfl hc4 nk' ns nr ⟨?_, by simp⟩ (gs.app _) (gr.app _) hd⟩
        simp [← h1.2]
      | some u =>
        obtain ⟨rfl, gu⟩ := gk
        have hul := (List.getElem?_eq_some_iff.1 gu).1
        have d1 := Gr.ne gs (show Gr 3 4 J _ _ (some u) from ⟨rfl, gu⟩) (by omega) u rfl
        have d2 := Gr.ne gr (show Gr 3 4 J _ _ (some u) from ⟨rfl, gu⟩) (by omega) u rfl
        have gu' : ∀ Y : List HO, (J ++ Y)[u]? = some (.spare LK.length 4) := fun Y => by rw [List.getElem?_append_left hul]; simpa using gu
        simp [e1, e4, e5, e6, e7, hlt, h1, gu']
        refine ⟨⟨by omega, by omega⟩, i + 1, by omega, ew, by omega, LI.intro c4 _ _ xs xr (some u) os or rfl hc4 nk' ns nr ⟨?_, ?_⟩ ((gs.app _).set d1 _) ((gr.app _).set d2 _) hd⟩
        · simp [← h1.2]
        · rw [List.getElem?_set_self (by simp; omega)]; simp
    | false =>
      have h1 : (isEdge P[i] && decide ((asEdge P[i]).b = t)) = false := hk
      rw [hk] at nk'
      simp only [Bool.false_eq_true, if_false] at nk'
      by_cases hu : usesI P[i] = [t]
      · have h2 : isOne t P[i] = true := by simp [isOne, hk, hu]
        have h3 : isRst t P[i] = false := by simp [isRst, hk, hu]
        rw [if_pos h2] at ns
        rw [h3] at nr
        simp only [Bool.false_eq_true, if_false] at nr
        cases os with
        | none =>
          obtain ⟨g0, gx⟩ := gs
          rw [avs_eq_nil] at g0
          subst g0
          have e3 : xs.ex = .sl .exact [] := by rcases gx with h | h <;> rw [h] <;> rfl
          simp [e1, e4, e5, e6, e7, hlt, h1, hu, e3]
          refine ⟨i + 1, by omega, ew, by omega, LI.intro c4 _ xk _ xr ok (some (J.length + 1)) or rfl hc4 nk' ns nr (gk.app _) ⟨?_, by simp⟩ (gr.app _) fun u hu2 hu3 => ?_⟩
          · simp
          · injection hu2 with hu2; have := gr.lt u hu3; omega
        | some u =>
          obtain ⟨rfl, gu⟩ := gs
          have hul := (List.getElem?_eq_some_iff.1 gu).1
          have d1 := Gr.ne gk (show Gr 3 9 J _ _ (some u) from ⟨rfl, gu⟩) (by omega) u rfl
          have d2 : or ≠ some u := hd u rfl
          have gu' : ∀ Y : List HO, (J ++ Y)[u]? = some (.spare LS.length 9) := fun Y => by rw [List.getElem?_append_left hul]; simpa using gu
          simp [e1, e4, e5, e6, e7, hlt, h1, hu, gu']
          refine ⟨⟨by omega, by omega⟩, i + 1, by omega, ew, by omega, LI.intro c4 _ xk _ xr ok (some u) or rfl hc4 nk' ns nr ((gk.app _).set d1 _) ⟨?_, ?_⟩ ((gr.app _).set d2 _) hd⟩
          · exact congrArg _ (exprs_snoc _ _)
          · rw [List.getElem?_set_self (by simp; omega)]; simp
      · have h2 : isOne t P[i] = false := by simp [isOne, hk, hu]
        have h3 : isRst t P[i] = true := by simp [isRst, hk, hu]
        rw [if_pos h3] at nr
        rw [h2] at ns
        simp only [Bool.false_eq_true, if_false] at ns
        obtain ⟨U, hU⟩ : ∃ U, U = usesI P[i] := ⟨_, rfl⟩
        rw [← hU] at hu hun
        match U, hU, hu, hun with
        | [], hU, hu, hun =>
          cases or with
          | none =>
            obtain ⟨g0, gx⟩ := gr
            rw [avs_eq_nil] at g0
            subst g0
            have e3 : xr.ex = .sl .exact [] := by rcases gx with h | h <;> rw [h] <;> rfl
            simp [e1, e4, e5, e6, e7, hlt, h1, ← hU, e3]
            refine ⟨i + 1, by omega, ew, by omega, LI.intro c4 _ xk xs _ ok os (some (J.length + 1)) rfl hc4 nk' ns nr (gk.app _) (gs.app _) ⟨?_, by simp⟩ fun u hu2 hu3 => ?_⟩
            · simp
            · injection hu3 with hu3; have := gs.lt u hu2; omega
          | some u =>
            obtain ⟨rfl, gu⟩ := gr
            have hul := (List.getElem?_eq_some_iff.1 gu).1
            have d1 := Gr.ne gk (show Gr 3 9 J _ _ (some u) from ⟨rfl, gu⟩) (by omega) u rfl
            have d2 : os ≠ some u := fun h => hd u h rfl
            have gu' : ∀ Y : List HO, (J ++ Y)[u]? = some (.spare LR.length 9) := fun Y => by rw [List.getElem?_append_left hul]; simpa using gu
            simp [e1, e4, e5, e6, e7, hlt, h1, ← hU, gu']
            refine ⟨⟨by omega, by omega⟩, i + 1, by omega, ew, by omega, LI.intro c4 _ xk xs _ ok os (some u) rfl hc4 nk' ns nr ((gk.app _).set d1 _) ((gs.app _).set d2 _) ⟨?_, ?_⟩ hd⟩
            · exact congrArg _ (exprs_snoc _ _)
            · rw [List.getElem?_set_self (by simp; omega)]; simp
        | [w], hU, hu, hun =>
          have hw : ¬ w = t := fun h => hu (by rw [h])
          cases or with
          | none =>
            obtain ⟨g0, gx⟩ := gr
            rw [avs_eq_nil] at g0
            subst g0
            have e3 : xr.ex = .sl .exact [] := by rcases gx with h | h <;> rw [h] <;> rfl
            simp [e1, e4, e5, e6, e7, hlt, h1, ← hU, e3, hw]
            refine ⟨i + 1, by omega, ew, by omega, LI.intro c4 _ xk xs _ ok os (some (J.length + 1)) rfl hc4 nk' ns nr (gk.app _) (gs.app _) ⟨?_, by simp⟩ fun u hu2 hu3 => ?_⟩
            · simp
            · injection hu3 with hu3; have := gs.lt u hu2; omega
          | some u =>
            obtain ⟨rfl, gu⟩ := gr
            have hul := (List.getElem?_eq_some_iff.1 gu).1
            have d1 := Gr.ne gk (show Gr 3 9 J _ _ (some u) from ⟨rfl, gu⟩) (by omega) u rfl
            have d2 : os ≠ some u := fun h => hd u h rfl
            have gu' : ∀ Y : List HO, (J ++ Y)[u]? = some (.spare LR.length 9) := fun Y => by rw [List.getElem?_append_left hul]; simpa using gu
            simp [e1, e4, e5, e6, e7, hlt, h1, ← hU, gu', hw]
            refine ⟨⟨by omega, by omega⟩, i + 1, by omega, ew, by omega, LI.intro c4 _ xk xs _ ok os (some u) rfl hc4 nk' ns nr ((gk.app _).set d1 _) ((gs.app _).set d2 _) ⟨?_, ?_⟩ hd⟩
            · exact congrArg _ (exprs_snoc _ _)
            · rw [List.getElem?_set_self (by simp; omega)]; simp
        | w :: w' :: W, hU, hu, hun =>
          have hw : ¬ (W.length : Int) + 1 + 1 = 1 := by omega
          cases or with
          | none =>
            obtain ⟨g0, gx⟩ := gr
            rw [avs_eq_nil] at g0
            subst g0
            have e3 : xr.ex = .sl .exact [] := by rcases gx with h | h <;> rw [h] <;> rfl
            simp [e1, e4, e5, e6, e7, hlt, h1, ← hU, e3, hw]
            refine ⟨i + 1, by omega, ew, by omega, LI.intro c4 _ xk xs _ ok os (some (J.length + 1)) rfl hc4 nk' ns nr (gk.app _) (gs.app _) ⟨?_, by simp⟩ fun u hu2 hu3 => ?_⟩
            · simp
            · injection hu3 with hu3; have := gs.lt u hu2; omega
          | some u =>
            obtain ⟨rfl, gu⟩ := gr
            have hul := (List.getElem?_eq_some_iff.1 gu).1
            have d1 := Gr.ne gk (show Gr 3 9 J _ _ (some u) from ⟨rfl, gu⟩) (by omega) u rfl
            have d2 : os ≠ some u := fun h => hd u h rfl
            have gu' : ∀ Y : List HO, (J ++ Y)[u]? = some (.spare LR.length 9) := fun Y => by rw [List.getElem?_append_left hul]; simpa using gu
            simp [e1, e4, e5, e6, e7, hlt, h1, ← hU, gu', hw]
            refine ⟨⟨by omega, by omega⟩, i + 1, by omega, ew, by omega, LI.intro c4 _ xk xs _ ok os (some u) rfl hc4 nk' ns nr ((gk.app _).set d1 _) ((gs.app _).set d2 _) ⟨?_, ?_⟩ hd⟩
            · exact congrArg _ (exprs_snoc _ _)
            · rw [List.getElem?_set_self (by simp; omega)]; simp
  · have : i = P.length := by omega
    subst this
    rw [List.take_length] at gk gs gr
    obtain ⟨o1, rfl⟩ := gk.own
    obtain ⟨o2, rfl⟩ := gs.own
    obtain ⟨o3, rfl⟩ := gr.own
    match c4, hc4 with
    | [c0, c1, c2, c3, c4], _ =>
    simp [e1, e4, e5, e6, e7]
    exact .agg (.cons (Frz.of_cl2 (by simp)) (.cons (Frz.of_cl2 (by simp)) (.cons (Frz.slN (f := Edg.av)) (.cons (Frz.slN (f := Ex'.av)) (.cons (Frz.slN (f := Ex'.av)) .nil)))))
end Go.Proofs.Ytcjfjoilgnlemaa.PL
