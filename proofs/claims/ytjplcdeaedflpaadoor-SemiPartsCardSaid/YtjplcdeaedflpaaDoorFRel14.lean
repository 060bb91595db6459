/- Relations: what is part of the join. -/
import Derived.Test.YtjplcdeaedflpaaDoorFRel8
import Derived.Test.YtjplcdeaedflpaaDoorFRel11
namespace Go.Proofs.YtjplcdeaedflpaaDoor.PL
open Go.Proofs
set_option linter.unusedVariables false
set_option linter.unusedSimpArgs false
theorem join_ok {a b : Rel} (ha : OkR a) (hb : OkR b) (ca : a.cols.length ≤ 20) (cb : b.cols.length ≤ 20) (ra : a.rows.length ≤ 30) (rb : b.rows.length ≤ 30) : OkR (joinR (heldR a) (heldR b)) := by
  have hL : OkL [a, b] := by
    have hp : (a.rows.length + 1) * (b.rows.length + 1) ≤ 31 * 31 := Nat.mul_le_mul (by omega) (by omega)
    refine ⟨fun r h => ?_, fun r h => ?_, by simp, ?_⟩
    · simp at h; rcases h with rfl | rfl <;> assumption
    · simp at h; rcases h with rfl | rfl <;> assumption
    · show (a.rows.length + 1) * ((b.rows.length + 1) * 1) ≤ _
      rw [Nat.mul_one]; omega
  have := hL.held.all
  have e : allJ ([a, b].map heldR) = joinR (heldR a) (heldR b) := by
    show joinR (joinR _ _) _ = _
    rw [join_unit (heldR_right a)]
  rwa [e] at this
def hasM (a b : Rel) (x : List Val) : Bool := b.rows.any fun y => meetB a b x y
theorem semi_rows (a b : Rel) : (someR a b true).rows = a.rows.filter (hasM a b) := by
  unfold someR hasM
  simp
theorem semi_again (a b : Rel) : someR (someR a b true) b true = someR a b true := by
  have : (someR (someR a b true) b true).rows = (someR a b true).rows := by
    rw [semi_rows]
    show (someR a b true).rows.filter (hasM a b) = _
    rw [semi_rows, List.filter_filter]
    simp
  exact congrArg (Rel.mk a.cols) this
theorem anti_none (a b : Rel) : (someR (someR a b true) b false).rows = [] := by
  show (someR a b true).rows.filter (fun x => hasM a b x == false) = []
  rw [List.filter_eq_nil_iff]
  intro x hx
  rw [semi_rows] at hx
  rw [(List.mem_filter.1 hx).2]
  simp
theorem proj_cols {a b : Rel} (ha : rightR a = true) : projC (joinR a b) a.cols = a.cols := by
  refine rises_eq ((setI_rises _).filter _) (rightR_rises ha) fun c => ?_
  unfold projC
  rw [List.mem_filter]
  show c ∈ colsJ a b ∧ _ ↔ _
  unfold colsJ
  rw [setI_mem]
  simp
  exact fun h => .inl h
theorem proj_row {a b : Rel} (ha : rightR a = true) {x y : List Val} (hx : x ∈ a.rows) : valsF (joinR a b).cols (rowJ a b x y) a.cols = x := by
  have e : valsF (joinR a b).cols (rowJ a b x y) a.cols = a.cols.map fun c => pickF x (idxF a.cols c) := by
    apply List.map_congr_left
    intro c hc
    have : c ∈ colsJ a b := by unfold colsJ; rw [setI_mem]; exact List.mem_append_left _ hc
    show pickF ((colsJ a b).map (cellJ a b x y)) (idxF (colsJ a b) c) = _
    rw [get_map this]
    unfold cellJ
    rw [if_pos hc]
  rw [e, vals_self (rightR_rises ha) (rightR_row ha hx)]
/-- a row is part of the join just if it has a match -/
theorem part_iff {a b : Rel} (ha : rightR a = true) {x : List Val} (hx : x ∈ a.rows) : x ∈ (projR (heldR (joinR a b)) a.cols).rows ↔ hasM a b x = true := by
  rw [heldR_of (join_right a b)]
  show x ∈ nubR ((joinR a b).rows.map fun z => valsF (joinR a b).cols z (projC (joinR a b) a.cols)) ↔ _
  rw [nubR_mem, proj_cols ha, List.mem_map]
  constructor
  · rintro ⟨z, hz, he⟩
    obtain ⟨x', hx', hz⟩ := List.mem_flatMap.1 hz
    obtain ⟨y, hy, rfl⟩ := List.mem_map.1 hz
    rw [proj_row ha hx'] at he
    subst he
    obtain ⟨h1, h2⟩ := List.mem_filter.1 hy
    exact List.any_eq_true.2 ⟨y, h1, h2⟩
  · intro h
    obtain ⟨y, h1, h2⟩ := List.any_eq_true.1 h
    exact ⟨rowJ a b x y, List.mem_flatMap.2 ⟨x, hx, List.mem_map.2 ⟨y, List.mem_filter.2 ⟨h1, h2⟩, rfl⟩⟩, proj_row ha hx⟩
theorem filter_at {α : Type} {q : α → Bool} {l : List α} {i : Nat} (h : i < l.length) (hq : q l[i] = true) : (l.filter q)[((l.take i).filter q).length]? = some l[i] := by
  conv => lhs; lhs; rw [← List.take_append_drop i l]
  rw [List.filter_append, List.getElem?_append_right (Nat.le_refl _), Nat.sub_self, List.drop_eq_getElem_cons h, List.filter_cons, if_pos hq]
  rfl
theorem T_SemiParts (a b : Rel) (ha : RelIn a) (hb : RelIn b) : T Tryd.prog 3 [a.av, b.av] (.bool true) := by
  have k1 := T_rmuch24 a ha.nc ha.nr fun l hl v hv => ((ha.row l hl).2 v hv).2.2
  have k2 := T_rmuch24 b hb.nc hb.nr fun l hl v hv => ((hb.row l hl).2 v hv).2.2
  refine T.intro (TS.bodyM [300003, 1030800, 1030801, 1030802, 1030803, 1030804, 1030805, 1030806, 1030807, 1030900, 1030901, 1030902, 1030903, 1030904, 1030905, 1030906, 1030907, 1030908] mix Tryd.func3 (by kernel_rfl) rfl (by kernel_rfl) (by simp) ?_)
  simp
  refine TS.callW k1 (Dws.self (by simp)) ?_
  cases hm : muchR a with
  | true =>
    simp
    refine GTK.callW (fun h => nomatch h) (ys := []) (r := .bool true) ?_
    simp
    refine GTK.callW (fun h => nomatch h) (ys := []) (r := .bool true) ?_
    simp
    refine GTK.callW (fun h => nomatch h) (ys := []) (r := .bool true) ?_
    simp
    refine TS.callW T_live24 .nil ?_
    simp
  | false =>
  obtain ⟨hok, hc20, hr30⟩ := muchR_ok hm ha
  simp
  refine GTK.callW (fun _ => ⟨k2, Dws.self (by simp)⟩) ?_
  cases hm2 : muchR b with
  | true =>
    simp
    refine GTK.callW (fun h => nomatch h) (ys := []) (r := .bool true) ?_
    simp
    refine GTK.callW (fun h => nomatch h) (ys := []) (r := .bool true) ?_
    simp
    refine TS.callW T_live24 .nil ?_
    simp
  | false =>
  obtain ⟨hok2, hc2, hr2⟩ := muchR_ok hm2 hb
  simp
  refine GTK.callW (fun _ => ⟨T_rright24 a hok, Dws.self (by simp)⟩) ?_
  cases hra : rightR a with
  | false =>
    simp
    refine GTK.callW (fun h => nomatch h) (ys := []) (r := .bool true) ?_
    simp
    refine TS.callW T_live24 .nil ?_
    simp
  | true =>
  simp
  refine GTK.callW (fun _ => ⟨T_rright24 b hok2, Dws.self (by simp)⟩) ?_
  cases hrb : rightR b with
  | false =>
    simp
    refine TS.callW T_live24 .nil ?_
    simp
  | true =>
  have hjo := join_ok hok hok2 hc20 hc2 hr30 hr2
  have c1 := T_semijoin a b hok hok2 (by omega)
  have c2 := T_sjoin a b hok hok2 (by have := bothR_len (heldR a) (heldR b); have := held_cols a; omega)
  rw [heldR_of hra, heldR_of hrb] at c1 c2 hjo
  have c3 := T_rproject24 (joinR a b) a.cols hjo (by omega)
  have hpo := projR_ok (cs := a.cols) (heldR_ok hjo)
  have hpart := fun x => @part_iff a b hra x
  have hs := someR_ok (b := b) (w := true) hok
  have c4 := T_semijoin (someR a b true) b hs hok2 (by show a.cols.length ≤ _; omega)
  have c5 := T_anti (someR a b true) b hs hok2 (by show a.cols.length ≤ _; omega)
  rw [heldR_of hrb, heldR_of (some_right hra)] at c4 c5
  rw [semi_again] at c4
  have hn := anti_none a b
  have hsr := semi_rows a b
  obtain ⟨u, hu⟩ : ∃ u, u = someR (someR a b true) b false := ⟨_, rfl⟩
  rw [← hu] at c5 hn
  obtain ⟨s, hsE⟩ : ∃ s, s = someR a b true := ⟨_, rfl⟩
  rw [← hsE] at c1 c4 c5 hs hsr
  have c6 : T Tryd.prog 12 [s.av, s.av] (.bool true) := T_rsame24 s (by have := hs.nc; omega) (by have := hs.nr; omega) fun l hl => by have := (hs.row l hl).1; omega
  obtain ⟨j, hj⟩ : ∃ j, j = joinR a b := ⟨_, rfl⟩
  rw [← hj] at c2 c3
  obtain ⟨pp, hpp⟩ : ∃ pp, pp = projR (heldR (joinR a b)) a.cols := ⟨_, rfl⟩
  rw [← hpp] at hpo hpart
  rw [hj, ← hpp, ← hj] at c3
  clear hu hsE hj hpp
  simp
  refine TDK.callW c1 (Dws.self (by simp)) ?_
  simp
  refine TDK.callW c2 (Dws.self (by simp)) ?_
  simp
  refine TS.callW c3 (Dws.self (by simp)) ?_
  simp
  refine vc_loop (fun i : Nat => a.rows.length - i) (fun i e H => e 2 = .ptr 0 0 ∧ e 3 = .ptr 1 0 ∧ e 5 = .ptr 2 0 ∧ e 7 = .ptr 4 0 ∧ e 8 = .int .i64 ((a.rows.take i).filter (hasM a b)).length ∧ e 9 = .int .i64 i ∧ i ≤ a.rows.length ∧ H = [.box a.cs, .box b.cs, .box s.cs, .box j.cs, .box pp.cs]) 0 ?_ ?_
  · simp
  rintro i e H ⟨e2, e3, e5, e7, e8, e9, hi, rfl⟩
  have hfl : ((a.rows.take i).filter (hasM a b)).length ≤ i := Nat.le_trans (List.length_filter_le ..) (by simp; omega)
  by_cases hlt : i < a.rows.length
  · have ew := wrap_next hlt (by omega)
    have hrow := hok.row _ (List.getElem_mem hlt)
    have kc := T_count24 pp.rows a.rows[i] (by have := hpo.2.1; omega) (fun x hx => by have := hpo.2.2 x hx; omega) (by omega)
    have hpi := hpart _ (List.getElem_mem hlt)
    have hnx := filter_nextR (q := hasM a b) hlt
    simp [e2, e3, e5, e7, e8, e9, hlt]
    refine TDK.callW kc (Dws.self (by simp)) ?_
    cases hq : hasM a b a.rows[i] with
    | true =>
      have hmem := hpi.2 hq
      have hct : 0 < pp.rows.count a.rows[i] := List.count_pos_iff.2 hmem
      rw [hq, if_pos rfl] at hnx
      have hat := filter_at hlt hq
      rw [← hsr] at hat
      obtain ⟨m, hm⟩ : ∃ m, m = ((a.rows.take i).filter (hasM a b)).length := ⟨_, rfl⟩
      rw [← hm] at hat hfl e8
      obtain ⟨hml, hmg⟩ := List.getElem?_eq_some_iff.1 hat
      have ks := T_rrowSame s.rows[m] a.rows[i] (by rw [hmg]; omega) (by omega)
      rw [hmg, decide_eq_true rfl] at ks
      have ew2 : IntKind.i64.wrap ((m : Int) + 1) = (((a.rows.take (i + 1)).filter (hasM a b)).length : Nat) := by rw [hnx, List.length_append, ← hm, wrap_i64 (by omega) (by omega)]; simp
      have hge : ¬ s.rows.length ≤ m := by omega
      simp [e2, e3, e5, e7, e8, e9, hct, hml, hge, hlt, hmg]
      refine GTK.callW (fun _ => ⟨ks, Dws.self (by simp [hmg])⟩) ?_
      simp [e2, e3, e5, e7, e8, e9]
      exact ⟨i + 1, by omega, ew2, ew, by omega⟩
    | false =>
      have hmem : a.rows[i] ∉ pp.rows := fun h => by have := hpi.1 h; rw [hq] at this; cases this
      have hct : pp.rows.count a.rows[i] = 0 := List.count_eq_zero.2 hmem
      rw [hq, if_neg (by simp), List.append_nil] at hnx
      simp [e2, e3, e5, e7, e8, e9, hct]
      exact ⟨i + 1, by omega, by rw [hnx], ew, by omega⟩
  · have : i = a.rows.length := by omega
    subst this
    rw [List.take_length, ← hsr] at e8
    simp [e2, e3, e5, e7, e8, e9]
    refine GTK.callW (fun _ => ⟨c4, Dws.self (by simp)⟩) ?_
    simp [e2, e3, e5, e7, e8, e9]
    refine GTK.callW (fun _ => ⟨c6, Dws.self (by simp)⟩) ?_
    simp [e2, e3, e5, e7, e8, e9]
    refine GTK.callW (fun _ => ⟨c5, Dws.self (by simp)⟩) ?_
    simp [e2, e3, e5, e7, e8, e9, hn]
    refine GTK.callW (fun _ => ⟨T_live24, .nil⟩) ?_
    simp [e2, e3, e5, e7, e8, e9]
theorem S_SemiParts {xs : List AV} (h : ShA Tryd.prog [25, 25] xs) : T Tryd.prog 3 xs (.bool true) := by
  obtain ⟨y, r, rfl, h0, h⟩ := h.cons_of ag_25
  obtain ⟨y, r, rfl, h1, h⟩ := h.cons_of ag_25
  obtain rfl := h.nil_of
  obtain ⟨a, rfl, ha⟩ := Rel_in h0
  obtain ⟨b, rfl, hb⟩ := Rel_in h1
  exact T_SemiParts a b ha hb
end Go.Proofs.YtjplcdeaedflpaaDoor.PL
