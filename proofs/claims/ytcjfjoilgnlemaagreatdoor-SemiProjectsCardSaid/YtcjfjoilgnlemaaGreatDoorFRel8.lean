/- Relations: some vertices, by the reference; the statement. -/
import Derived.Test.YtcjfjoilgnlemaaGreatDoorFRel7
namespace Go.Proofs.YtcjfjoilgnlemaaGreatDoor.PL
open Go.Proofs
set_option linter.unusedVariables false
set_option linter.unusedSimpArgs false
theorem T_count24 (l : List (List Val)) (r : List Val) (hl : l.length < 4611686018427387904) (hr : ∀ x, x ∈ l → x.length < 4611686018427387904) (hr2 : r.length < 4611686018427387904) : T Tryz.prog 39 [.sl .no (rows' l), rowA r] (.int .i64 (l.count r : Nat)) := by
  refine T.intro (TS.body mix Tryz.func39 (by kernel_rfl) rfl (by kernel_rfl) (by simp) ?_)
  simp
  refine vc_loop (fun i : Nat => l.length - i) (fun i e H => e 0 = .sl .no (rows' l) ∧ e 1 = rowA r ∧ e 5 = .int .i64 ((l.take i).count r : Nat) ∧ e 6 = .int .i64 i ∧ i ≤ l.length) 0 ?_ ?_
  · simp
  rintro i e H ⟨h0, h1, h5, h6, hi⟩
  by_cases hlt : i < l.length
  · have ew := wrap_next hlt (by omega)
    have k := T_rrowSame l[i] r (hr _ (List.getElem_mem hlt)) hr2
    have hcl : (l.take i).count r ≤ i := Nat.le_trans List.count_le_length (by simp; omega)
    have hnx : (l.take (i + 1)).count r = (l.take i).count r + (if l[i] = r then 1 else 0) := by
      rw [take_next hlt, List.count_append, List.count_singleton]; simp
    simp [h0, h1, h5, h6, hlt]
    refine TS.callW k (Dws.self (by simp)) ?_
    by_cases hc : l[i] = r
    · rw [if_pos hc] at hnx
      have ew2 : IntKind.i64.wrap (((l.take i).count r : Int) + 1) = ((l.take (i + 1)).count r : Nat) := by rw [hnx, wrap_i64 (by omega) (by omega)]; omega
      simp [h0, h1, h5, h6, hlt, hc]
      exact ⟨i + 1, by omega, ew2, ew, by omega⟩
    · rw [if_neg hc] at hnx
      simp [h0, h1, h5, h6, hlt, hc]
      exact ⟨i + 1, by omega, by rw [hnx, Nat.add_zero], ew, by omega⟩
  · have : i = l.length := by omega
    subst this
    rw [List.take_length] at h5
    simp [h0, h1, h5, h6]
def RPc (p r : Rel) (cs : List Int) (i : Nat) (H : List HO) : Prop := ∃ c1 J x, c1.length = 2 ∧ H = .box p.cs :: .box c1 :: .box r.cs :: .box [x, .sl .exact []] :: J ∧ GrowX 4 1 J x (ints' ((r.cols.take i).filter fun c => decide (c ∈ cs)))
def RPr (p r : Rel) (cs : List Int) (i : Nat) (H : List HO) : Prop := ∃ c1 own J x, c1.length = 2 ∧ H = .box p.cs :: .box c1 :: .box r.cs :: .box [.sl own (ints' (projC r cs)), x] :: J ∧ GrowX 4 1 J x (rows' (nubR ((r.rows.take i).map fun x => valsF r.cols x (projC r cs))))
theorem T_rproject24 (p : Rel) (cs : List Int) (hp : OkR p) (hc : cs.length ≤ 1000) : T Tryz.prog 11 [p.av, .sl .no (ints' cs)] (projR (heldR p) cs).av := by
  have k1 := T_rheld24 p hp
  have ha := heldR_ok hp
  obtain ⟨r, hrr⟩ : ∃ r, r = heldR p := ⟨_, rfl⟩
  rw [← hrr] at k1 ha ⊢
  have hnr := ha.nr
  have hnc := ha.nc
  have hpl := projC_len r cs
  refine T.introF (TS.body mix Tryz.func11 (by kernel_rfl) rfl (by kernel_rfl) (by simp) ?_)
  simp
  refine TS.callW k1 (Dws.self (by simp)) ?_
  simp
  refine vc_loop (fun i : Nat => r.cols.length - i) (fun i e H => e 1 = .sl .no (ints' cs) ∧ e 4 = .ptr 1 0 ∧ e 5 = .ptr 2 0 ∧ e 6 = .ptr 3 0 ∧ e 7 = .int .i64 i ∧ i ≤ r.cols.length ∧ RPc p r cs i H) 0 ?_ ?_
  · simp
    exact ⟨_, _, _, rfl, rfl, .inl ⟨rfl, .inr rfl⟩⟩
  rintro i e H ⟨e1, e4, e5, e6, e7, hi, c1, J, x, hc1, rfl, hg⟩
  by_cases hlt : i < r.cols.length
  · have ew := wrap_next hlt (by omega)
    have k2 := T_has21 cs r.cols[i] (by omega)
    have hnx := filter_nextR (q := fun c => decide (c ∈ cs)) hlt
    have hfl : ((r.cols.take i).filter fun c => decide (c ∈ cs)).length ≤ i := Nat.le_trans (List.length_filter_le ..) (by simp; omega)
    simp [e1, e4, e5, e6, e7, hlt]
    refine TS.callW k2 (Dws.self (by simp)) ?_
    by_cases hin : r.cols[i] ∈ cs
    · rw [if_pos (by simpa using hin)] at hnx
      rcases hg with ⟨ge, zx⟩ | ⟨t, rfl, ht⟩
      · rw [avs_eq_nil] at ge
        have ex := GrowX.ex0 zx
        simp [e1, e4, e5, e6, e7, hlt, hin, ex]
        refine ⟨i + 1, by omega, ew, by omega, c1, _, _, hc1, rfl, ?_⟩
        rw [hnx]
        exact GrowX.first (f := AV.int .i64) ge rfl
      · have hw := ht
        simp only [avs_length] at hw
        simp [e1, e4, e5, e6, e7, hlt, hin, hw]
        refine ⟨by omega, i + 1, by omega, ew, by omega, c1, _, _, hc1, rfl, ?_⟩
        rw [hnx]
        exact GrowX.more (f := AV.int .i64) ht (by omega)
    · rw [if_neg (by simpa using hin), List.append_nil] at hnx
      simp [e1, e4, e5, e6, e7, hlt, hin]
      exact ⟨i + 1, by omega, ew, by omega, c1, _, _, hc1, rfl, by rw [hnx]; exact hg⟩
  have : i = r.cols.length := by omega
  subst this
  rw [List.take_length] at hg
  obtain ⟨own, rfl⟩ := hg.own
  simp [e1, e4, e5, e6, e7]
  clear hg e1 e7 hi hlt
  refine vc_loop (fun i : Nat => r.rows.length - i) (fun i e H => e 4 = .ptr 1 0 ∧ e 5 = .ptr 2 0 ∧ e 6 = .ptr 3 0 ∧ e 8 = .int .i64 i ∧ i ≤ r.rows.length ∧ RPr p r cs i H) 0 ?_ ?_
  · simp [e4, e5, e6]
    exact ⟨_, _, _, _, hc1, rfl, .inl ⟨rfl, .inr rfl⟩⟩
  clear e4 e5 e6 e hc1 c1 J own
  rintro i e H ⟨e4, e5, e6, e8, hi, c1, own1, J, x, hc1, rfl, hg⟩
  by_cases hlt : i < r.rows.length
  · have ew := wrap_next hlt (by omega)
    have hnx := proj_next (r := r) (cs := projC r cs) hlt
    obtain ⟨N, hN⟩ : ∃ N, N = nubR ((r.rows.take i).map fun x => valsF r.cols x (projC r cs)) := ⟨_, rfl⟩
    have hNr : ∀ x, x ∈ N → x.length = (projC r cs).length := fun x hx => nubR_row (by rw [← hN]; exact hx)
    have hNl : N.length ≤ i := by rw [hN]; refine Nat.le_trans (nubR_len _) ?_; simp; omega
    rw [← hN] at hg hnx
    have hrow := ha.row _ (List.getElem_mem hlt)
    obtain ⟨v, hv⟩ : ∃ v, v = valsF r.cols r.rows[i] (projC r cs) := ⟨_, rfl⟩
    have k2 := T_rvalues24 r r.rows[i] (projC r cs) hnc hrow.1 (by omega)
    have hvl : v.length = (projC r cs).length := by rw [hv]; simp [valsF]
    rw [← hv] at k2 hnx
    obtain ⟨own, hx⟩ := hg.own
    have k3 := T_count24 N v (by omega) (fun y hy => by have := hNr y hy; omega) (by omega)
    simp [e4, e5, e6, e8, hlt]
    refine TDK.callW k2 (.cons (.self (by simp)) (.cons (.self (by simp)) (.cons (.sl (Dws.self (by simp))) .nil))) ?_
    simp [e4, e5, e6, e8, hlt, hx]
    refine TS.callW k3 (.cons (.sl (Dws.self (by simp))) (.cons (.self (by simp)) .nil)) ?_
    by_cases hvN : v ∈ N
    · have hnx2 : nubR ((r.rows.take (i + 1)).map fun x => valsF r.cols x (projC r cs)) = N := by rw [hnx]; exact if_pos hvN
      have hct : ¬ N.count v = 0 := by rw [List.count_eq_zero]; exact fun h => h hvN
      simp [e4, e5, e6, e8, hlt, hct]
      refine ⟨i + 1, by omega, ew, by omega, c1, _, _, _, hc1, rfl, ?_⟩
      rw [hnx2, ← hx]
      exact hg
    · have hnx2 : nubR ((r.rows.take (i + 1)).map fun x => valsF r.cols x (projC r cs)) = N ++ [v] := by rw [hnx]; exact if_neg hvN
      have hct : N.count v = 0 := List.count_eq_zero.2 hvN
      rcases hg with ⟨ge, zx⟩ | ⟨t, rfl, ht⟩
      · rw [avs_eq_nil] at ge
        subst ge
        have zx2 : own = .nil ∨ own = .exact := by rw [hx] at zx; rcases zx with h | h <;> cases h <;> simp
        rcases zx2 with rfl | rfl
        all_goals
          simp [e4, e5, e6, e8, hlt, hct]
          refine ⟨i + 1, by omega, ew, by omega, c1, _, _, _, hc1, rfl, ?_⟩
          rw [hnx2]
          exact .inr ⟨J.length, by simp [avs], by simp⟩
      · cases hx
        have hw := ht
        simp only [avs_length] at hw
        have htl := (List.getElem?_eq_some_iff.1 ht).1
        simp [e4, e5, e6, e8, hlt, hct, hw]
        refine ⟨by omega, i + 1, by omega, ew, by omega, c1, _, _, _, hc1, rfl, ?_⟩
        rw [hnx2]
        exact .inr ⟨t, by simp [avs], by rw [List.getElem?_set_self htl]; simp⟩
  · have : i = r.rows.length := by omega
    subst this
    rw [List.take_length] at hg
    obtain ⟨own, rfl⟩ := hg.own
    match c1, hc1 with
    | [u0, u1], _ =>
    simp [e4, e5, e6, e8]
    exact .agg (.cons (Frz.slN (f := AV.int .i64)) (.cons (Frz.slN (f := fun r => AV.sl .no (vals' r))) .nil))
theorem projR_ok {r : Rel} {cs : List Int} (h : OkR r) : (projR r cs).cols.length ≤ 1000000 ∧ (projR r cs).rows.length ≤ 1000000 ∧ ∀ l, l ∈ (projR r cs).rows → l.length ≤ 1000000 := by
  have h1 := projC_len r cs
  have h2 := h.nc
  have h3 := h.nr
  refine ⟨by show (projC r cs).length ≤ _; omega, ?_, fun l hl => ?_⟩
  · refine Nat.le_trans (nubR_len _) ?_
    simp
    omega
  · have : l ∈ nubR ((r.rows.take r.rows.length).map fun x => valsF r.cols x (projC r cs)) := by rw [List.take_length]; exact hl
    have := nubR_row this
    omega
theorem T_SemiProjects (r : Rel) (cs : List Int) (x y : List Val) (hr : RelIn r) (hc : cs.length < 4611686018427387904) (hx : x.length < 4611686018427387904 ∧ ∀ v, v ∈ x → valIn v) (hy : y.length < 4611686018427387904 ∧ ∀ v, v ∈ y → valIn v) : T Tryz.prog 3 [r.av, .sl .no (ints' cs), rowA x, rowA y] (.bool true) := by
  have k1 := T_rmuch24 r hr.nc hr.nr fun l hl v hv => ((hr.row l hl).2 v hv).2.2
  have k2 := T_much [x, y] (by show 2 < _; omega) (fun l hl v hv => by
    simp at hl
    rcases hl with rfl | rfl
    · exact (hx.2 v hv).2.2
    · exact (hy.2 v hv).2.2)
  refine T.intro (TS.body mix Tryz.func3 (by kernel_rfl) rfl (by kernel_rfl) (by simp) ?_)
  simp
  refine TS.callW k1 (Dws.self (by simp)) ?_
  cases hm : muchR r with
  | true =>
    simp
    refine GTK.callW (fun h => nomatch h) (ys := []) (r := .bool true) ?_
    simp
    refine TS.callW T_live24 .nil ?_
    simp
  | false =>
  obtain ⟨hok, hc20, hr30⟩ := muchR_ok hm hr
  by_cases hcs : 30 < cs.length
  · have hcs' : (30 : Int) < cs.length := by omega
    simp [hcs, hcs']
    refine GTK.callW (fun h => nomatch h) (ys := []) (r := .bool true) ?_
    simp
    refine TS.callW T_live24 .nil ?_
    simp
  have hcs' : ¬ (30 : Int) < cs.length := by omega
  simp [hcs, hcs']
  refine GTK.callW (fun _ => ⟨k2, .cons (.sl (Dws.self (by simp))) .nil⟩) ?_
  cases hm2 : much [x, y] with
  | true =>
    simp
    refine TS.callW T_live24 .nil ?_
    simp
  | false =>
  obtain ⟨_, hxy⟩ := much_no hm2
  have hx40 := hxy x (by simp)
  have hy40 := hxy y (by simp)
  have k3 := T_sproject r cs hok (by omega)
  have k4 := T_rproject24 r cs hok (by omega)
  have hpo := projR_ok (cs := cs) (heldR_ok hok)
  obtain ⟨u, hu⟩ : ∃ u, u = projR (heldR r) cs := ⟨_, rfl⟩
  rw [← hu] at k3 k4 hpo
  have k5 := T_rsame24 u hpo.1 hpo.2.1 hpo.2.2
  have k6 := T_svalues r x cs (by omega) (by omega) (by omega)
  have k7 := T_rvalues24 r x cs (by omega) (by omega) (by omega)
  have hvl : (valsF r.cols x cs).length ≤ 1000 := by simp [valsF]; omega
  have k8 := T_rrowSame (valsF r.cols x cs) (valsF r.cols x cs) (by omega) (by omega)
  have k9 := T_smatch x y hx.1
  have k10 := T_rmatch24 x y hx.1 fun v hv => by have := hx40.2 v hv; omega
  simp
  refine TDK.callW k3 (Dws.self (by simp)) ?_
  simp
  refine TDK.callW k4 (Dws.self (by simp)) ?_
  simp
  refine TDK.callW k5 (Dws.self (by simp)) ?_
  simp
  refine GTK.callW (fun _ => ⟨k6, Dws.self (by simp)⟩) ?_
  simp
  refine GTK.callW (fun _ => ⟨k7, Dws.self (by simp)⟩) ?_
  simp
  refine GTK.callW (fun _ => ⟨k8, Dws.self (by simp)⟩) ?_
  simp
  refine GTK.callW (fun _ => ⟨k9, Dws.self (by simp)⟩) ?_
  simp
  refine GTK.callW (fun _ => ⟨k10, Dws.self (by simp)⟩) ?_
  simp
  refine GTK.callW (fun _ => ⟨T_live24, .nil⟩) ?_
  simp
theorem Rel_in {cs : List AV} (h : Sh Tryz.prog 25 cs) : ∃ r : Rel, cs = r.cs ∧ RelIn r := by
  have hrl := reach_lt
  obtain ⟨hl, hf⟩ := h.struct_of ft_25
  obtain ⟨x, y, rfl⟩ : ∃ x y, cs = [x, y] := by
    match cs, hl with
    | [x, y], _ => exact ⟨x, y, rfl⟩
  obtain ⟨l, h1, hn⟩ := ints_in (hf (22, 0, 1) (by simp))
  obtain ⟨zs, h3, hz, hzl⟩ := (hf (23, 1, 1) (by simp)).sl_of un_23 ag_26
  simp at h1 h3
  subst h1; subst h3
  obtain ⟨rows, er, elr, hrow⟩ := list_in (f := rowA) (g := mkAV false) (Q := fun r => r.length < 4611686018427387904 ∧ ∀ v, v ∈ r → valIn v) (fun z hz' => by
    obtain ⟨l, e, hv, hlen⟩ := vals_in (hz z hz')
    exact ⟨l, by rw [e]; rfl, hlen, hv⟩)
  have b2 : 1 ≤ Tryz.prog.bytesOf 26 := by decide +kernel
  have m2 := Nat.mul_le_mul_left zs.length b2
  exact ⟨⟨l, rows⟩, by rw [er]; rfl, hn.2, by show rows.length < _; omega, hrow⟩
theorem S_SemiProjects {xs : List AV} (h : ShA Tryz.prog [25, 22, 26, 26] xs) : T Tryz.prog 3 xs (.bool true) := by
  obtain ⟨y, r, rfl, h0, h⟩ := h.cons_of ag_25
  obtain ⟨y, r, rfl, h1, h⟩ := h.cons_of ag_22
  obtain ⟨y, r, rfl, h2, h⟩ := h.cons_of ag_26
  obtain ⟨y, r, rfl, h3, h⟩ := h.cons_of ag_26
  obtain rfl := h.nil_of
  obtain ⟨r, rfl, hr⟩ := Rel_in h0
  obtain ⟨cs, hcs, hn⟩ := ints_in h1
  obtain ⟨a, ha, hav, hal⟩ := vals_in h2
  obtain ⟨b, hb, hbv, hbl⟩ := vals_in h3
  rw [hcs, ha, hb]
  exact T_SemiProjects r cs a b hr hn.2 ⟨hal, hav⟩ ⟨hbl, hbv⟩
end Go.Proofs.YtcjfjoilgnlemaaGreatDoor.PL
