/- Relations: some vertices, by the reference; the statement. -/
import Derived.Test.YtjplcdeaedflpaaDoorFRel7
namespace Go.Proofs.YtjplcdeaedflpaaDoor.PL
open Go.Proofs
set_option linter.unusedVariables false
set_option linter.unusedSimpArgs false
theorem T_count24 (l : List (List Val)) (r : List Val) (hl : l.length < 4611686018427387904) (hr : ∀ x, x ∈ l → x.length < 4611686018427387904) (hr2 : r.length < 4611686018427387904) : T Tryd.prog 10 [.sl .no (rows' l), rowA r] (.int .i64 (l.count r : Nat)) := by
  refine T.intro (TS.body mix Tryd.func10 (by kernel_rfl) rfl (by kernel_rfl) (by simp) ?_)
  simp
  refine vc_loop (fun i : Nat => l.length - i) (fun i e H => e 0 = .sl .no (rows' l) ∧ e 1 = rowA r ∧ e 5 = .int .i64 ((l.take i).count r : Nat) ∧ e 6 = .int .i64 i ∧ i ≤ l.length) 0 ?_ ?_
  · simp
  rintro i e H ⟨h0, h1, h5, h6, hi⟩
  by_cases hlt : i < l.length
  · have ew := wrap_next hlt (by omega)
    have k := T_rrowSame l[i] r (hr _ (List.getElem_mem hlt)) hr2
    have hcl : (l.take i).count r ≤ i := Nat.le_trans List.count_le_length (by simp; omega)
    have hnx : (l.take (i + 1)).count r = (l.take i).count r + (if l[i] = r then 1 else 0) := by
      rw [take_next hlt, List.count_append, List.count_singleton]; simp
    simp [h0, h1, h5, h6, hlt]
    refine TS.callW k (Dws.self (by simp)) ?_
    by_cases hc : l[i] = r
    · rw [if_pos hc] at hnx
      have ew2 : IntKind.i64.wrap (((l.take i).count r : Int) + 1) = ((l.take (i + 1)).count r : Nat) := by rw [hnx, wrap_i64 (by omega) (by omega)]; omega
      simp [h0, h1, h5, h6, hlt, hc]
      exact ⟨i + 1, by omega, ew2, ew, by omega⟩
    · rw [if_neg hc] at hnx
      simp [h0, h1, h5, h6, hlt, hc]
      exact ⟨i + 1, by omega, by rw [hnx, Nat.add_zero], ew, by omega⟩
  · have : i = l.length := by omega
    subst this
    rw [List.take_length] at h5
    simp [h0, h1, h5, h6]
def RPc (p r : Rel) (cs : List Int) (i : Nat) (H : List HO) : Prop := ∃ c1 J x, c1.length = 2 ∧ H = .box p.cs :: .box c1 :: .box r.cs :: .box [x, .sl .exact []] :: J ∧ GrowX 4 1 J x (ints' ((r.cols.take i).filter fun c => decide (c ∈ cs)))
def RPr (p r : Rel) (cs : List Int) (i : Nat) (H : List HO) : Prop := ∃ c1 own J x, c1.length = 2 ∧ H = .box p.cs :: .box c1 :: .box r.cs :: .box [.sl own (ints' (projC r cs)), x] :: J ∧ GrowX 4 1 J x (rows' (nubR ((r.rows.take i).map fun x => valsF r.cols x (projC r cs))))
theorem T_rproject24 (p : Rel) (cs : List Int) (hp : OkR p) (hc : cs.length ≤ 1000) : T Tryd.prog 9 [p.av, .sl .no (ints' cs)] (projR (heldR p) cs).av := by
  have k1 := T_rheld24 p hp
  have ha := heldR_ok hp
  obtain ⟨r, hrr⟩ : ∃ r, r = heldR p := ⟨_, rfl⟩
  rw [← hrr] at k1 ha ⊢
  have hnr := ha.nr
  have hnc := ha.nc
  have hpl := projC_len r cs
  refine T.introF (TS.body mix Tryd.func9 (by kernel_rfl) rfl (by kernel_rfl) (by simp) ?_)
  simp
  refine TS.callW k1 (Dws.self (by simp)) ?_
  simp
  refine vc_loop (fun i : Nat => r.cols.length - i) (fun i e H => e 1 = .sl .no (ints' cs) ∧ e 4 = .ptr 1 0 ∧ e 5 = .ptr 2 0 ∧ e 6 = .ptr 3 0 ∧ e 7 = .int .i64 i ∧ i ≤ r.cols.length ∧ RPc p r cs i H) 0 ?_ ?_
  · simp
    exact ⟨_, _, _, rfl, rfl, .inl ⟨rfl, .inr rfl⟩⟩
  rintro i e H ⟨e1, e4, e5, e6, e7, hi, c1, J, x, hc1, rfl, hg⟩
  by_cases hlt : i < r.cols.length
  · have ew := wrap_next hlt (by omega)
    have k2 := T_has21 cs r.cols[i] (by omega)
    have hnx := filter_nextR (q := fun c => decide (c ∈ cs)) hlt
    have hfl : ((r.cols.take i).filter fun c => decide (c ∈ cs)).length ≤ i := Nat.le_trans (List.length_filter_le ..) (by simp; omega)
    simp [e1, e4, e5, e6, e7, hlt]
    refine TS.callW k2 (Dws.self (by simp)) ?_
    by_cases hin : r.cols[i] ∈ cs
    · rw [if_pos (by simpa using hin)] at hnx
      rcases hg with ⟨ge, zx⟩ | ⟨t, rfl, ht⟩
      · rw [avs_eq_nil] at ge
        have ex := GrowX.ex0 zx
        simp [e1, e4, e5, e6, e7, hlt, hin, ex]
        refine ⟨i + 1, by omega, ew, by omega, c1, _, _, hc1, rfl, ?_⟩
        rw [hnx]
        exact GrowX.first (f := AV.int .i64) ge rfl
      · have hw := ht
        simp only [avs_length] at hw
        simp [e1, e4, e5, e6, e7, hlt, hin, hw]
        refine ⟨by omega, i + 1, by omega, ew, by omega, c1, _, _, hc1, rfl, ?_⟩
        rw [hnx]
        exact GrowX.more (f := AV.int .i64) ht (by omega)
    · rw [if_neg (by simpa using hin), List.append_nil] at hnx
      simp [e1, e4, e5, e6, e7, hlt, hin]
      exact ⟨i + 1, by omega, ew, by omega, c1, _, _, hc1, rfl, by rw [hnx]; exact hg⟩
  have : i = r.cols.length := by omega
  subst this
  rw [List.take_length] at hg
  obtain ⟨own, rfl⟩ := hg.own
  simp [e1, e4, e5, e6, e7]
  clear hg e1 e7 hi hlt
  refine vc_loop (fun i : Nat => r.rows.length - i) (fun i e H => e 4 = .ptr 1 0 ∧ e 5 = .ptr 2 0 ∧ e 6 = .ptr 3 0 ∧ e 8 = .int .i64 i ∧ i ≤ r.rows.length ∧ RPr p r cs i H) 0 ?_ ?_
  · simp [e4, e5, e6]
    exact ⟨_, _, _, _, hc1, rfl, .inl ⟨rfl, .inr rfl⟩⟩
  clear e4 e5 e6 e hc1 c1 J own
  rintro i e H ⟨e4, e5, e6, e8, hi, c1, own1, J, x, hc1, rfl, hg⟩
  by_cases hlt : i < r.rows.length
  · have ew := wrap_next hlt (by omega)
    have hnx := proj_next (r := r) (cs := projC r cs) hlt
    obtain ⟨N, hN⟩ : ∃ N, N = nubR ((r.rows.take i).map fun x => valsF r.cols x (projC r cs)) := ⟨_, rfl⟩
    have hNr : ∀ x, x ∈ N → x.length = (projC r cs).length := fun x hx => nubR_row (by rw [← hN]; exact hx)
    have hNl : N.length ≤ i := by rw [hN]; refine Nat.le_trans (nubR_len _) ?_; simp; omega
    rw [← hN] at hg hnx
    have hrow := ha.row _ (List.getElem_mem hlt)
    obtain ⟨v, hv⟩ : ∃ v, v = valsF r.cols r.rows[i] (projC r cs) := ⟨_, rfl⟩
    have k2 := T_rvalues24 r r.rows[i] (projC r cs) hnc hrow.1 (by omega)
    have hvl : v.length = (projC r cs).length := by rw [hv]; simp [valsF]
    rw [← hv] at k2 hnx
    obtain ⟨own, hx⟩ := hg.own
    have k3 := T_count24 N v (by omega) (fun y hy => by have := hNr y hy; omega) (by omega)
    simp [e4, e5, e6, e8, hlt]
    refine TDK.callW k2 (.cons (.self (by simp)) (.cons (.self (by simp)) (.cons (.sl (Dws.self (by simp))) .nil))) ?_
    simp [e4, e5, e6, e8, hlt, hx]
    refine TS.callW k3 (.cons (.sl (Dws.self (by simp))) (.cons (.self (by simp)) .nil)) ?_
    by_cases hvN : v ∈ N
    · have hnx2 : nubR ((r.rows.take (i + 1)).map fun x => valsF r.cols x (projC r cs)) = N := by rw [hnx]; exact if_pos hvN
      have hct : ¬ N.count v = 0 := by rw [List.count_eq_zero]; exact fun h => h hvN
      simp [e4, e5, e6, e8, hlt, hct]
      refine ⟨i + 1, by omega, ew, by omega, c1, _, _, _, hc1, rfl, ?_⟩
      rw [hnx2, ← hx]
      exact hg
    · have hnx2 : nubR ((r.rows.take (i + 1)).map fun x => valsF r.cols x (projC r cs)) = N ++ [v] := by rw [hnx]; exact if_neg hvN
      have hct : N.count v = 0 := List.count_eq_zero.2 hvN
      rcases hg with ⟨ge, zx⟩ | ⟨t, rfl, ht⟩
      · rw [avs_eq_nil] at ge
        subst ge
        have zx2 : own = .nil ∨ own = .exact := by rw [hx] at zx; rcases zx with h | h <;> cases h <;> simp
        rcases zx2 with rfl | rfl
        all_goals
          simp [e4, e5, e6, e8, hlt, hct]
          refine ⟨i + 1, by omega, ew, by omega, c1, _, _, _, hc1, rfl, ?_⟩
          rw [hnx2]
          exact .inr ⟨J.length, by simp [avs], by simp⟩
      · cases hx
        have hw := ht
        simp only [avs_length] at hw
        have htl := (List.getElem?_eq_some_iff.1 ht).1
        simp [e4, e5, e6, e8, hlt, hct, hw]
        refine ⟨by omega, i + 1, by omega, ew, by omega, c1, _, _, _, hc1, rfl, ?_⟩
        rw [hnx2]
        exact .inr ⟨t, by simp [avs], by rw [List.getElem?_set_self htl]; simp⟩
  · have : i = r.rows.length := by omega
    subst this
    rw [List.take_length] at hg
    obtain ⟨own, rfl⟩ := hg.own
    match c1, hc1 with
    | [u0, u1], _ =>
    simp [e4, e5, e6, e8]
    exact .agg (.cons (Frz.slN (f := AV.int .i64)) (.cons (Frz.slN (f := fun r => AV.sl .no (vals' r))) .nil))
theorem projR_ok {r : Rel} {cs : List Int} (h : OkR r) : (projR r cs).cols.length ≤ 1000000 ∧ (projR r cs).rows.length ≤ 1000000 ∧ ∀ l, l ∈ (projR r cs).rows → l.length ≤ 1000000 := by
  have h1 := projC_len r cs
  have h2 := h.nc
  have h3 := h.nr
  refine ⟨by show (projC r cs).length ≤ _; omega, ?_, fun l hl => ?_⟩
  · refine Nat.le_trans (nubR_len _) ?_
    simp
    omega
  · have : l ∈ nubR ((r.rows.take r.rows.length).map fun x => valsF r.cols x (projC r cs)) := by rw [List.take_length]; exact hl
    have := nubR_row this
    omega

theorem Rel_in {cs : List AV} (h : Sh Tryd.prog 25 cs) : ∃ r : Rel, cs = r.cs ∧ RelIn r := by
  have hrl := reach_lt
  obtain ⟨hl, hf⟩ := h.struct_of ft_25
  obtain ⟨x, y, rfl⟩ : ∃ x y, cs = [x, y] := by
    match cs, hl with
    | [x, y], _ => exact ⟨x, y, rfl⟩
  obtain ⟨l, h1, hn⟩ := ints_in (hf (22, 0, 1) (by simp))
  obtain ⟨zs, h3, hz, hzl⟩ := (hf (23, 1, 1) (by simp)).sl_of un_23 ag_31
  simp at h1 h3
  subst h1; subst h3
  obtain ⟨rows, er, elr, hrow⟩ := list_in (f := rowA) (g := mkAV false) (Q := fun r => r.length < 4611686018427387904 ∧ ∀ v, v ∈ r → valIn v) (fun z hz' => by
    obtain ⟨l, e, hv, hlen⟩ := vals_in (hz z hz')
    exact ⟨l, by rw [e]; rfl, hlen, hv⟩)
  have b2 : 1 ≤ Tryd.prog.bytesOf 31 := by decide +kernel
  have m2 := Nat.mul_le_mul_left zs.length b2
  exact ⟨⟨l, rows⟩, by rw [er]; rfl, hn.2, by show rows.length < _; omega, hrow⟩

end Go.Proofs.YtjplcdeaedflpaaDoor.PL
