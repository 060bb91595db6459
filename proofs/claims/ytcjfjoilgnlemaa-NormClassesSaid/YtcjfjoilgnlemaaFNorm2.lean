/- Conditions, by where they are asked: the tables they name; what is an edge. -/
import Derived.Test.YtcjfjoilgnlemaaFNorm1
namespace Go.Proofs.Ytcjfjoilgnlemaa.PL
open Go.Proofs
set_option linter.unusedVariables false
set_option linter.unusedSimpArgs false
/-- the tables that it names, rising -/
def usesI (e : Ex') : List Int := setI (e.cols.map Ex'.t)
theorem usesI_len (e : Ex') : (usesI e).length ≤ e.nodes := by
  have h1 := setI_len (e.cols.map Ex'.t)
  have h2 := e.cols_len
  rw [List.length_map] at h1
  unfold usesI
  omega
set_option maxRecDepth 4000 in
theorem T_ruses (e : Ex') (he : OkE e) (hn : e.nodes ≤ 1000000) : T Try.prog 32 [e.av] (.sl .no (ints' (usesI e))) := by
  have kc := T_rcols08 e he hn
  have hcl := e.cols_len
  unfold usesI
  obtain ⟨C, hC⟩ : ∃ C, C = e.cols := ⟨_, rfl⟩
  rw [← hC] at kc hcl ⊢
  clear hC
  simp only [Ex'.av_eq] at kc
  refine T.introF (TS.body mix Try.func32 (by kernel_rfl) rfl (by kernel_rfl) (by simp) ?_)
  simp
  refine TS.callW kc (Dws.self (by simp)) ?_
  simp
  refine vc_loop (fun i : Nat => C.length - i) (fun i e' H => (∃ own, e' 3 = .sl own (ints' (setI ((C.take i).map Ex'.t)))) ∧ e' 4 = .sl .no (exprs C) ∧ e' 5 = .int .i64 i ∧ i ≤ C.length ∧ ∃ J, H = .box e.cs :: J) 0 ?_ ?_
  · simp [setI]
  rintro i e' H ⟨⟨own, e3⟩, e4, e5, hi, J, rfl⟩
  by_cases hlt : i < C.length
  · have ew := wrap_next hlt (by omega)
    have hnx := setI_next (l := C.map Ex'.t) (i := i) (by simpa using hlt)
    rw [← List.map_take, ← List.map_take, List.getElem_map] at hnx
    have hsl := setI_len ((C.take i).map Ex'.t)
    rw [List.length_map, List.length_take] at hsl
    have hr := setI_rises ((C.take i).map Ex'.t)
    obtain ⟨L, hL⟩ : ∃ L, L = setI ((C.take i).map Ex'.t) := ⟨_, rfl⟩
    rw [← hL] at hnx hsl e3 hr
    obtain ⟨x, hx⟩ : ∃ x, x = (C[i]).t := ⟨_, rfl⟩
    rw [← hx] at hnx
    simp [e3, e4, e5, hlt]
    refine vc_loop (fun k : Nat => k) (fun k e' H => e' 3 = .sl own (ints' L) ∧ e' 4 = .sl .no (exprs C) ∧ e' 5 = .int .i64 i ∧ e' 6 = .int .i64 k ∧ k ≤ L.length ∧ (∀ j (h : j < L.length), k ≤ j → x < L[j]) ∧ H = .box e.cs :: J) L.length ?_ ?_
    · simp [e3, e4, e5]
      intro j h h'; omega
    clear e3 e4 e5 e'
    rintro k e' H ⟨e3, e4, e5, e6, hk, hhi, rfl⟩
    have fin : ∀ hk0 : k = 0 ∨ ∃ h : k - 1 < L.length, L[k - 1] < x, putI x L = L.take k ++ x :: L.drop k := fun hk0 => by
      have hlo : ∀ j (h : j < L.length), j < k → L[j] < x := by
        intro j h hj
        rcases hk0 with h0 | ⟨h0, h00⟩
        · omega
        rcases Nat.lt_or_ge j (k - 1) with h1 | h1
        · have := (List.pairwise_iff_getElem.1 hr) j (k - 1) h h0 h1
          omega
        · have : j = k - 1 := by omega
          subst this; exact h00
      refine putI_at hk hlo (fun h => by have := hhi k h (by omega); omega) fun hm => ?_
      obtain ⟨j, hj, hjx⟩ := List.mem_iff_getElem.1 hm
      rcases Nat.lt_or_ge j k with h1 | h1
      · have := hlo j hj h1; omega
      · have := hhi j hj h1; omega
    by_cases hk0 : k = 0
    · subst hk0
      rw [fin (.inl rfl)] at hnx
      cases L with
      | nil =>
        simp [e3, e4, e5, e6, hlt, ← hx]
        exact ⟨i + 1, by omega, by rw [← List.map_take, hnx]; simp, ew, by omega⟩
      | cons y L =>
        simp at hsl
        simp [e3, e4, e5, e6, hlt, ← hx]
        exact ⟨by omega, ⟨by omega, by omega⟩, i + 1, by omega, by rw [← List.map_take, hnx]; simp, ew, by omega⟩
    have hk1 : k - 1 < L.length := by omega
    have hks : IntKind.i64.wrap ((k : Int) - 1) = ((k - 1 : Nat) : Int) := by rw [wrap_i64 (by omega) (by omega)]; omega
    have hkp : 0 < k := by omega
    rcases Int.lt_trichotomy x L[k - 1] with hc | hc | hc
    · simp [e3, e4, e5, e6, hlt, ← hx, hkp, hks, hk1, hc]
      refine ⟨k - 1, by omega, rfl, by omega, fun j hj hkj => ?_⟩
      rcases Nat.lt_or_ge j k with h1 | h1
      · have : j = k - 1 := by omega
        subst this; exact hc
      · exact hhi j hj h1
    · rw [putI_in hr (by rw [hc]; exact List.getElem_mem hk1)] at hnx
      simp [e3, e4, e5, e6, hlt, ← hx, hkp, hks, hk1, ← hc]
      exact ⟨i + 1, by omega, by rw [← List.map_take, hnx], ew, by omega⟩
    · rw [fin (.inr ⟨hk1, hc⟩)] at hnx
      have hm : min k L.length = k := by omega
      have hc1 : ¬ x < L[k - 1] := by omega
      have hc2 : ¬ x = L[k - 1] := by omega
      have hc3 : ¬ L[k - 1] = x := by omega
      simp [e3, e4, e5, e6, hlt, ← hx, hkp, hks, hk1, hc1, hc2, hc3, hm]
      exact ⟨hk, ⟨by omega, by omega⟩, ⟨by omega, by omega⟩, hk, ⟨by omega, by omega⟩, i + 1, by omega, by rw [← List.map_take, hnx], ew, by omega⟩
  · have : i = C.length := by omega
    subst this
    rw [List.take_length] at e3
    simp [e3, e4, e5]
    exact Frz.slN (f := AV.int .i64)
structure Edg where
  a : Int
  ac : Int
  b : Int
  bc : Int
  deriving DecidableEq
abbrev Edg.cs (x : Edg) : List AV := [.int .i64 x.a, .int .i64 x.ac, .int .i64 x.b, .int .i64 x.bc]
abbrev Edg.av (x : Edg) : AV := .agg x.cs
instance : Sized Edg.av 4 := ⟨fun _ => rfl⟩
instance : Plain Edg.av := ⟨fun x => by simp [AV.pl, AV.pls]⟩
abbrev edgs (l : List Edg) : List AV := avs Edg.av l
def isEdge (e : Ex') : Bool := match e.l with
  | [x, y] => decide (e.op = 1) && decide (x.op = 15) && decide (y.op = 15) && !decide (x.t = y.t)
  | _ => false
def asEdge (e : Ex') : Edg := match e.l with
  | [x, y] => if isEdge e then if x.t < y.t then ⟨x.t, x.c, y.t, y.c⟩ else ⟨y.t, y.c, x.t, x.c⟩ else ⟨0, 0, 0, 0⟩
  | _ => ⟨0, 0, 0, 0⟩
theorem asEdge_no {e : Ex'} (h : isEdge e = false) : asEdge e = ⟨0, 0, 0, 0⟩ := by unfold asEdge; split <;> simp [h]
theorem edF {H : List HO} {a b c d : Int} {f : Bool} {x : Edg} {g : Bool} (h : x = ⟨a, b, c, d⟩) (h' : f = g) : Frz H (.tup [.agg [.int .i64 a, .int .i64 b, .int .i64 c, .int .i64 d], .bool f]) (.tup [x.av, .bool g]) := by
  subst h h'
  exact .tup (.cons (Frz.of_cl2 (by simp)) (.cons (Frz.of_cl2 (by simp)) .nil))
set_option maxRecDepth 4000 in
set_option maxHeartbeats 1000000 in
theorem T_rasEdge (e : Ex') (he : OkE e) : T Try.prog 30 [e.av] (.tup [(asEdge e).av, .bool (isEdge e)]) := by
  refine T.introF (TS.bodyM [300003, 1031000, 1031001, 1031002, 1031003, 1031008, 1031009, 1031100, 1031101, 1031102, 1031103, 1031104, 1031105, 1031106, 1031107, 1031108, 1031109, 1031110] mix Try.func30 (by kernel_rfl) rfl (by kernel_rfl) (by simp) ?_)
  obtain ⟨op, tab, name, t, c, v, l⟩ := e
  match l with
  | [] =>
    have h0 : isEdge (Ex'.mk op tab name t c v []) = false := rfl
    rw [asEdge_no h0, h0]
    by_cases h1 : op = 1 <;> simp [h1] <;> exact edF rfl rfl
  | [x] =>
    have h0 : isEdge (Ex'.mk op tab name t c v [x]) = false := rfl
    rw [asEdge_no h0, h0]
    by_cases h1 : op = 1 <;> simp [h1] <;> exact edF rfl rfl
  | x :: y :: z :: l =>
    have h0 : isEdge (Ex'.mk op tab name t c v (x :: y :: z :: l)) = false := rfl
    rw [asEdge_no h0, h0]
    have h2 : ¬ (l.length : Int) + 1 + 1 + 1 = 2 := by omega
    by_cases h1 : op = 1
    · simp [h1, h2]
      exact edF rfl rfl
    · simp [h1]
      exact edF rfl rfl
  | [x, y] =>
    have hE : isEdge (Ex'.mk op tab name t c v [x, y]) = (decide (op = 1) && decide (x.op = 15) && decide (y.op = 15) && !decide (x.t = y.t)) := rfl
    obtain ⟨xop, xtab, xname, xt, xc, xv, xl⟩ := x
    obtain ⟨yop, ytab, yname, yt, yc, yv, yl⟩ := y
    by_cases h1 : op = 1 ∧ xop = 15 ∧ yop = 15 ∧ ¬ xt = yt
    · obtain ⟨rfl, rfl, rfl, h4⟩ := h1
      have hE : isEdge (Ex'.mk 1 tab name t c v [Ex'.mk 15 xtab xname xt xc xv xl, Ex'.mk 15 ytab yname yt yc yv yl]) = true := by rw [hE]; simp [h4]
      by_cases hw : xt < yt
      · have hA : asEdge (Ex'.mk 1 tab name t c v [Ex'.mk 15 xtab xname xt xc xv xl, Ex'.mk 15 ytab yname yt yc yv yl]) = ⟨xt, xc, yt, yc⟩ := by simp [asEdge, hE, hw]
        rw [hE, hA]
        simp [h4, hw]
        exact edF rfl rfl
      · have hA : asEdge (Ex'.mk 1 tab name t c v [Ex'.mk 15 xtab xname xt xc xv xl, Ex'.mk 15 ytab yname yt yc yv yl]) = ⟨yt, yc, xt, xc⟩ := by simp [asEdge, hE, hw]
        rw [hE, hA]
        simp [h4, hw]
        exact edF rfl rfl
    · have h0 : isEdge (Ex'.mk op tab name t c v [Ex'.mk xop xtab xname xt xc xv xl, Ex'.mk yop ytab yname yt yc yv yl]) = false := by
        rw [hE]
        simp
        exact fun a b c => decide_eq_true (Classical.byContradiction fun h => h1 ⟨a, of_decide_eq_true b, of_decide_eq_true c, fun h' => h h'⟩)
      rw [asEdge_no h0, h0]
      by_cases h2 : op = 1
      · by_cases h3 : xop = 15
        · by_cases h4 : yop = 15
          · have h5 : xt = yt := Classical.byContradiction fun h => h1 ⟨h2, h3, h4, h⟩
            simp [h2, h3, h4, h5]
            exact edF rfl rfl
          · simp [h2, h3, h4]
            exact edF rfl rfl
        · simp [h2, h3]
          exact edF rfl rfl
      · simp [h2]
        exact edF rfl rfl
end Go.Proofs.Ytcjfjoilgnlemaa.PL
