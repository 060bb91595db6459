/- NameResolves, NameTwice. -/
import Derived.Test.YtaahlhhpmooliaaFNam6
namespace Go.Proofs.Ytaahlhhpmooliaa.PL
open Go.Proofs
set_option linter.unusedVariables false
set_option linter.unusedSimpArgs false
variable {ts : List Tab} {fs : List Frm}
theorem nodesL_bound : ∀ {l : List Ex'}, (∀ x, x ∈ l → x.nodes ≤ 200) → Ex'.nodesL l ≤ 200 * l.length
  | [], _ => by simp [Ex'.nodesL]
  | e :: l, h => by
    have h0 := h e List.mem_cons_self
    have h1 : Ex'.nodesL l ≤ 200 * l.length := nodesL_bound fun x hx => h x (List.mem_cons_of_mem _ hx)
    simp only [Ex'.nodesL, List.length_cons]
    omega
theorem any_no {α : Type} {q : α → Bool} {l : List α} (h : l.any q = false) : ∀ x, x ∈ l → q x = false := by
  intro x hx
  rw [List.any_eq_false] at h
  simpa using h x hx
theorem OkR.of {q : Qry} (hq : OkQ q) (h : muchQ q = false) : OkR q ∧ q.frm.length ≤ 12 ∧ q.sel.length ≤ 20 ∧ q.grp.length ≤ 12 := by
  unfold muchQ at h
  simp only [Bool.or_eq_false_iff, decide_eq_false_iff_not] at h
  obtain ⟨⟨⟨⟨⟨⟨h1, h2⟩, h3⟩, h4⟩, h5⟩, h6⟩, h7⟩ := h
  have n5 := nodesL_bound fun x hx => muchE_no (any_no h5 x hx)
  have n6 := nodesL_bound fun x hx => muchE_no (any_no h6 x hx)
  refine ⟨⟨by omega, fun f hf => ⟨(hq.frm f hf).on, ?_⟩, ⟨hq.whr, by have := muchE_no h4; omega⟩, ⟨hq.grp.ok, by omega⟩, ⟨hq.sel.ok, by omega⟩⟩, by omega, by omega, by omega⟩
  have := any_no h7 f hf
  unfold muchF at this
  rw [Bool.or_eq_false_iff] at this
  have := muchE_no this.1
  omega
theorem TsOk.of (h : muchT ts = false) : TsOk ts := by
  have h1 := (muchT_no h).1
  refine ⟨by omega, fun t ht => ?_⟩
  have := (muchT_no2 h t ht).1
  omega
theorem okQ_z : OkQ zQ := ⟨⟨by simp [zQ], by simp [zQ]⟩, by simp [zQ], by simp [zQ], .mk (by simp [zQ, zE]) (by simp [zQ, zE, valIn, zV]) (by simp [zQ, zE]) (by simp [zQ, zE]) (by simp [zQ, zE]), ⟨by simp [zQ], by simp [zQ]⟩⟩
theorem listF_ok (hf : ∀ f, f ∈ fs → f.tab.size ≤ reachBytes ∧ f.al.size ≤ reachBytes) {l m : List Ex'} (h : listF ts fs l = some m) (hl : OkL l) (hn : Ex'.nodesL l ≤ 1000000) : OkL m ∧ Ex'.nodesL m ≤ 1000000 := by
  have e := exprFL_len h
  refine ⟨⟨fun x hx => ?_, by rw [e]; exact hl.len⟩, ?_⟩
  · obtain ⟨i, hi, rfl⟩ := List.getElem_of_mem hx
    exact exprF_ok hf _ _ (exprFL_get h i (by omega) hi) (hl.ok _ (List.getElem_mem _))
  · have := nodesL_le e fun i a b => exprF_nodes _ _ (exprFL_get h i a b)
    omega
theorem resolve_ok {q p : Qry} (hq : OkQ q) (hr : OkR q) (h : resolveF ts q = some p) : OkQ p ∧ OkR p := by
  obtain ⟨hf, hw, hg, hs⟩ := resolveF_some h
  have hb : ∀ f, f ∈ q.frm → f.tab.size ≤ reachBytes ∧ f.al.size ≤ reachBytes := fun f h => ⟨(hq.frm f h).tab, (hq.frm f h).al⟩
  obtain ⟨g1, g2⟩ := listF_ok hb hg hq.grp hr.grp.2
  obtain ⟨s1, s2⟩ := listF_ok hb hs hq.sel hr.sel.2
  have hl := fromsR_len hf
  have hw2 : OkE p.whr ∧ p.whr.nodes ≤ 1000000 := by
    unfold whrR at hw
    split at hw
    · simp at hw; rw [← hw]; exact hr.whr
    · exact ⟨exprF_ok hb _ _ hw hr.whr.1, Nat.le_trans (exprF_nodes _ _ hw) hr.whr.2⟩
  have hfs : ∀ f, f ∈ p.frm → OkF f ∧ f.on.nodes ≤ 1000000 := by
    intro f hm
    obtain ⟨i, hi, rfl⟩ := List.getElem_of_mem hm
    obtain ⟨hi', _, h3 | ⟨_, y, hy, h3⟩⟩ := fromR_some (fromsR_get hf i hi)
    · rw [h3.2]; exact ⟨hq.frm _ (List.getElem_mem _), (hr.onk _ (List.getElem_mem _)).2⟩
    · rw [h3]
      have h4 := hq.frm _ (List.getElem_mem hi')
      have h5 := hr.onk _ (List.getElem_mem hi')
      exact ⟨⟨h4.tab, h4.al, exprF_ok hb _ _ hy h4.on⟩, Nat.le_trans (exprF_nodes _ _ hy) h5.2⟩
  exact ⟨⟨s1, fun f hm => (hfs f hm).1, by rw [hl]; exact hq.len, hw2.1, g1⟩, ⟨by rw [hl]; exact hr.len, fun f hm => ⟨(hfs f hm).1.on, (hfs f hm).2⟩, hw2, ⟨g1.ok, g2⟩, ⟨s1.ok, s2⟩⟩⟩
theorem resolve_ok' {q : Qry} (hq : OkQ q) (hr : OkR q) : OkQ ((resolveF ts q).getD zQ) := by
  cases h : resolveF ts q with
  | none => exact okQ_z
  | some p => exact (resolve_ok hq hr h).1
theorem T_code11 (n : Int) : T Try.prog 17 [.int .i64 n] (.int .i64 n) := by
  refine T.intro (TS.body mix Try.func17 (by kernel_rfl) rfl (by kernel_rfl) (by simp) ?_)
  simp
def lv11T : List Tab := [⟨⟨#[116]⟩, [⟨⟨#[120]⟩, 1⟩], []⟩]
def lv11Q : Qry := ⟨[.mk 15 ByteArray.empty ⟨#[120]⟩ 0 0 zV []], [⟨0, ⟨#[116]⟩, ⟨#[97]⟩, zE⟩], zE, []⟩
def lv11P : Qry := ⟨[.mk 15 ⟨#[97]⟩ ⟨#[120]⟩ 0 0 zV []], [⟨0, ⟨#[116]⟩, ⟨#[97]⟩, zE⟩], zE, []⟩
theorem lv11_is : resolveF lv11T lv11Q = some lv11P := by rfl
set_option maxRecDepth 100000 in
theorem T_live11 : T Try.prog 13 [] (.bool true) := by
  have k1 := T_resolve (ts := lv11T) ⟨by decide, by simp [lv11T]⟩ lv11Q (by
    have oz : OkE zE ∧ zE.nodes ≤ 1000000 := ⟨okQ_z.whr, by decide⟩
    refine ⟨by decide, ?_, oz, ⟨by simp [lv11Q], by decide⟩, ⟨?_, by decide⟩⟩
    · intro f hf
      simp [lv11Q] at hf
      subst hf
      exact oz
    · intro x hx
      simp [lv11Q] at hx
      subst hx
      exact .mk (by simp) (by simp [valIn, zV]) (by simp) (by simp; decide) (by simp))
  rw [lv11_is] at k1
  have kc := T_code11 0
  simp only [lv11T, lv11Q, lv11P, Option.getD_some, Ex'.av_eq, Ex'.cs, op_mk, tab_mk, name_mk, t_mk, c_mk, v_mk, l_mk, zV_k, zV_i, zV_s, avs_nil, avs_cons, zE, Tab.av, Col.av, Frm.av, Frm.cs, Qry.av, Qry.cs] at k1
  refine T.intro (TS.body mix Try.func13 (by kernel_rfl) rfl (by kernel_rfl) (by simp) ?_)
  simp
  refine TS.callW k1 (by repeat (first | exact .self rfl | constructor)) ?_
  simp
  refine TS.callW kc (by repeat (first | exact .self rfl | constructor)) ?_
  simp
set_option maxRecDepth 100000 in
theorem T_NameResolves (ts : List Tab) (q : Qry) (hl : ts.length < 4611686018427387904) (ok : ∀ t, t ∈ ts → TabIn t) (hq : OkQ q) : T Try.prog 3 [.sl .no (avs Tab.av ts), q.av] (.bool true) := by
  have m1 := T_muchT ts hl ok
  have m2 := T_muchQ q hq
  refine T.intro (TS.body mix Try.func3 (by kernel_rfl) rfl (by kernel_rfl) (by simp) ?_)
  simp
  refine TS.callW m1 (Dws.self (by simp)) ?_
  cases e1 : muchT ts with
  | true =>
    simp
    refine GTK.callW (fun h => nomatch h) (ys := []) (r := .bool true) ?_
    simp
    refine TS.callW T_live11 .nil ?_
    simp
  | false =>
    simp
    refine GTK.callW (fun _ => ⟨m2, Dws.self (by simp)⟩) ?_
    cases e2 : muchQ q with
    | true =>
      simp
      refine TS.callW T_live11 .nil ?_
      simp
    | false =>
      have hts := TsOk.of e1
      obtain ⟨hr, _⟩ := OkR.of hq e2
      have k1 := T_resolve hts q hr
      have k2 := T_rresolve hts q hr
      have hp := resolve_ok' (ts := ts) hq hr
      have k3 := T_rsameQuery _ ((resolveF ts q).getD zQ) hp
      have kc := T_code11 (if (resolveF ts q).isSome = true then 0 else 2)
      rw [sameE_iff.2 rfl] at k3
      generalize (resolveF ts q).getD zQ = p at *
      generalize (if (resolveF ts q).isSome = true then (0 : Int) else 2) = n at *
      simp
      refine TS.callW k1 (Dws.self (by simp)) ?_
      simp
      refine TS.callW k2 (Dws.self (by simp)) ?_
      simp
      refine TS.callW k3 (Dws.self (by simp)) ?_
      simp
      refine GTK.callW (fun _ => ⟨kc, Dws.self (by simp)⟩) ?_
      simp
      refine GTK.callW (fun _ => ⟨T_live11, .nil⟩) ?_
      simp
theorem S_NameResolves {xs : List AV} (h : ShA Try.prog [22, 30] xs) : T Try.prog 3 xs (.bool true) := by
  obtain ⟨y, r, rfl, h0, h⟩ := h.cons_of ag_22
  obtain ⟨y, r, rfl, h1, h⟩ := h.cons_of ag_30
  obtain rfl := h.nil_of
  obtain ⟨ts, rfl, ok, hl⟩ := tabs_in h0
  obtain ⟨q, rfl, hq⟩ := Qry_in h1
  exact T_NameResolves ts q hl ok hq
set_option maxRecDepth 100000 in
theorem T_NameTwice (ts : List Tab) (q : Qry) (hl : ts.length < 4611686018427387904) (ok : ∀ t, t ∈ ts → TabIn t) (hq : OkQ q) : T Try.prog 4 [.sl .no (avs Tab.av ts), q.av] (.bool true) := by
  have m1 := T_muchT ts hl ok
  have m2 := T_muchQ q hq
  refine T.intro (TS.bodyM [100016, 1161602, 1161607, 1161610] mix Try.func4 (by kernel_rfl) rfl (by kernel_rfl) (by simp) ?_)
  simp
  refine TS.callW m1 (Dws.self (by simp)) ?_
  cases e1 : muchT ts with
  | true =>
    simp
    refine GTK.callW (fun h => nomatch h) (ys := []) (r := .bool true) ?_
    simp
    refine TS.callW T_live11 .nil ?_
    simp
  | false =>
    simp
    refine GTK.callW (fun _ => ⟨m2, Dws.self (by simp)⟩) ?_
    cases e2 : muchQ q with
    | true =>
      simp
      refine TS.callW T_live11 .nil ?_
      simp
    | false =>
      have hts := TsOk.of e1
      obtain ⟨hr, hb1, hb2, hb3⟩ := OkR.of hq e2
      have k1 := T_resolve hts q hr
      simp
      refine TS.callW k1 (Dws.self (by simp)) ?_
      cases hp : resolveF ts q with
      | none =>
        have kc := T_code11 2
        simp
        refine TS.callW kc (Dws.self (by simp)) ?_
        simp [zQ]
        refine GTK.callW (fun _ => ⟨T_live11, .nil⟩) ?_
        simp
      | some p =>
        obtain ⟨hpq, hpr⟩ := resolve_ok hq hr hp
        obtain ⟨hf, hw, hg, hs⟩ := resolveF_some hp
        have ka := T_resolve hts p hpr
        have k3 := T_rsameQuery p p hpq
        have kc := T_code11 0
        rw [resolve_again hp] at ka
        rw [sameE_iff.2 rfl] at k3
        have hsl := exprFL_len hs
        have hcols : ∀ x, x ∈ p.sel → ∀ c, c ∈ x.cols → ColIs ts q.frm c := fun x hx => by
          obtain ⟨i, hi, rfl⟩ := List.getElem_of_mem hx
          exact exprF_cols _ _ (exprFL_get hs i (by omega) hi)
        simp
        refine TS.callW kc (Dws.self (by simp)) ?_
        simp
        refine TS.callW ka (Dws.self (by simp)) ?_
        simp
        refine vc_loop (fun i : Nat => p.sel.length - i) (fun i en H => ∃ J : List HO, en 0 = .sl .no (avs Tab.av ts) ∧ en 3 = .ptr 0 0 ∧ en 5 = .ptr 1 0 ∧ en 7 = .ptr 2 0 ∧ en 8 = .int .i64 0 ∧ en 9 = .int .i64 i ∧ i ≤ p.sel.length ∧ H = .box q.cs :: .box p.cs :: .box p.cs :: J) 0 ?_ ?_
        · simp
        rintro i en H ⟨J, h0, h3, h5, h7, h8, h9, hi, rfl⟩
        by_cases hlt : i < p.sel.length
        · have hm := List.getElem_mem hlt
          have kx := T_rcols08 p.sel[i] (hpr.sel.1 _ hm) (by have := Ex'.nodesL_mem hm; have := hpr.sel.2; omega)
          have hcl := hcols _ hm
          have hcn := p.sel[i].cols_len
          have hnn : (p.sel[i]).nodes ≤ 1000000 := by have := Ex'.nodesL_mem hm; have := hpr.sel.2; omega
          have ew := wrap_next hlt (by omega)
          simp only [Ex'.av_eq] at kx
          simp [h0, h3, h5, h7, h8, h9, hlt]
          refine TS.callW kx (Dws.self (by simp)) ?_
          simp [h0, h3, h5, h7, h8, h9, hlt]
          generalize (p.sel[i]).cols = L at *
          refine vc_loop (fun j : Nat => L.length - j) (fun j en H => ∃ J : List HO, en 0 = .sl .no (avs Tab.av ts) ∧ en 3 = .ptr 0 0 ∧ en 5 = .ptr 1 0 ∧ en 7 = .ptr 2 0 ∧ en 8 = .int .i64 0 ∧ en 9 = .int .i64 i ∧ en 10 = .sl .no (exprs L) ∧ en 11 = .int .i64 j ∧ j ≤ L.length ∧ H = .box q.cs :: .box p.cs :: .box p.cs :: J) 0 ?_ ?_
          · simp [h0, h3, h5, h7, h8, h9]
          clear h0 h3 h5 h7 h8 h9
          rintro j en H ⟨J, h0, h3, h5, h7, h8, h9, h10, h11, hj, rfl⟩
          by_cases hjt : j < L.length
          · obtain ⟨k, c, hk, hc, e3, e4, e5⟩ := hcl _ (List.getElem_mem hjt)
            have ejw := wrap_next hjt (by omega)
            have kf := T_rfind' ts (q.frm[k]).tab hl
            have n1 : ¬ (k : Int) < 0 := by omega
            have n2 : ¬ q.frm.length ≤ k := by omega
            have n3 : ¬ (c : Int) < 0 := by omega
            have n4 : ¬ (foundT ts (q.frm[k]).tab).cols.length ≤ c := by omega
            simp [h0, h3, h5, h7, h8, h9, h10, h11, hjt, e3, hk, n1, n2]
            refine TDK.callW kf (Dws.self (by simp)) ?_
            simp [h0, h3, h5, h7, h8, h9, h10, h11, hjt, e3, e4, e5, hk, hc, n1, n2, n3, n4]
            exact ⟨j + 1, by omega, ejw, by omega⟩
          · simp [h0, h3, h5, h7, h8, h9, h10, h11, hjt]
            exact ⟨i + 1, by omega, ew, by omega⟩
        · simp [h0, h3, h5, h7, h8, h9, hlt]
          refine TS.callW kc (Dws.self (by simp)) ?_
          simp [h0, h3, h5, h7, h8, h9, hlt]
          refine GTK.callW (fun _ => ⟨k3, Dws.self (by simp)⟩) ?_
          simp [h0, h3, h5, h7, h8, h9, hlt]
          refine GTK.callW (fun _ => ⟨T_live11, .nil⟩) ?_
          simp [h0, h3, h5, h7, h8, h9, hlt]
theorem S_NameTwice {xs : List AV} (h : ShA Try.prog [22, 30] xs) : T Try.prog 4 xs (.bool true) := by
  obtain ⟨y, r, rfl, h0, h⟩ := h.cons_of ag_22
  obtain ⟨y, r, rfl, h1, h⟩ := h.cons_of ag_30
  obtain rfl := h.nil_of
  obtain ⟨ts, rfl, ok, hl⟩ := tabs_in h0
  obtain ⟨q, rfl, hq⟩ := Qry_in h1
  exact T_NameTwice ts q hl ok hq
end Go.Proofs.Ytaahlhhpmooliaa.PL
