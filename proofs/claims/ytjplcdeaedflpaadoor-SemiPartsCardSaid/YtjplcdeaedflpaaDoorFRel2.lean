/- Relations: values at columns; what the reference holds. -/
import Derived.Test.YtjplcdeaedflpaaDoorFRel
namespace Go.Proofs.YtjplcdeaedflpaaDoor.PL
open Go.Proofs
set_option linter.unusedVariables false
set_option linter.unusedSimpArgs false
def idxF (l : List Int) (v : Int) : Int := match l.findIdx? (fun x => decide (x = v)) with | some i => (i : Int) | none => -1
def valsF (cols : List Int) (row : List Val) (cs : List Int) : List Val := cs.map fun c => pickF row (idxF cols c)
theorem idxF_mem (l : List Int) (v : Int) : decide (0 ≤ idxF l v) = decide (v ∈ l) := by
  unfold idxF
  cases h : l.findIdx? (fun x => decide (x = v)) with
  | none =>
    rw [List.findIdx?_eq_none_iff] at h
    have : v ∉ l := fun hv => by simpa using h v hv
    simp [this]
  | some i =>
    obtain ⟨h1, h2, _⟩ := List.findIdx?_eq_some_iff_getElem.1 h
    have : v ∈ l := by simp at h2; rw [← h2]; exact List.getElem_mem h1
    simp [this]
theorem idxF_some {l : List Int} {v : Int} {i : Nat} (h : i < l.length) (he : l[i] = v) (hno : ∀ j (h : j < l.length), j < i → ¬ l[j] = v) : idxF l v = i := by
  unfold idxF
  have : l.findIdx? (fun x => decide (x = v)) = some i := by
    rw [List.findIdx?_eq_some_iff_getElem]
    exact ⟨h, by simp [he], fun j hj => by simpa using hno j (by omega) hj⟩
  rw [this]
theorem idxF_none {l : List Int} {v : Int} (h : v ∉ l) : idxF l v = -1 := by
  unfold idxF
  have : l.findIdx? (fun x => decide (x = v)) = none := by
    rw [List.findIdx?_eq_none_iff]
    intro x hx
    simp
    rintro rfl
    exact h hx
  rw [this]
theorem idxF_at {l : List Int} {v : Int} (h : v ∈ l) : ∃ i : Nat, ∃ h : i < l.length, l[i] = v ∧ idxF l v = i := by
  unfold idxF
  cases h2 : l.findIdx? (fun x => decide (x = v)) with
  | none =>
    rw [List.findIdx?_eq_none_iff] at h2
    exact absurd (h2 v h) (by simp)
  | some i =>
    obtain ⟨h1, h3, _⟩ := List.findIdx?_eq_some_iff_getElem.1 h2
    exact ⟨i, h1, by simpa using h3, rfl⟩
theorem T_idxF (l : List Int) (v : Int) (hl : l.length < 4611686018427387904) : T Tryd.prog 22 [.sl .no (ints' l), .int .i64 v] (.int .i64 (idxF l v)) := by
  obtain ⟨n, h1, _, h3⟩ := T_indexI l v hl
  rw [h3] at h1
  exact h1
theorem T_svalues (r : Rel) (row : List Val) (cs : List Int) (hr : r.cols.length ≤ 1000) (hrow : row.length ≤ 1000) (hc : cs.length ≤ 1000) : T Tryd.prog 21 [r.av, rowA row, .sl .no (ints' cs)] (rowA (valsF r.cols row cs)) := by
  obtain ⟨ps, hps⟩ : ∃ ps, ps = cs.map (idxF r.cols) := ⟨_, rfl⟩
  have hpl : ps.length = cs.length := by rw [hps, List.length_map]
  have hpi : ∀ i (h : i < cs.length), ps[i]'(by omega) = idxF r.cols cs[i] := fun i h => by subst hps; simp
  refine T.intro (TS.body mix Tryd.func21 (by kernel_rfl) rfl (by kernel_rfl) (by simp) ?_)
  simp
  refine vc_loop (fun i : Nat => cs.length - i) (fun i e H => e 1 = rowA row ∧ e 3 = .ptr 0 0 ∧ e 10 = .sl .no (ints' cs) ∧ e 11 = .int .i64 cs.length ∧ e 12 = .int .i64 i ∧ i ≤ cs.length ∧ ∃ J, H = .box r.cs :: J ∧ GrowK 1 1 J (e 7) (ints' (ps.take i))) 0 ?_ ?_
  · simp [GrowK]
  rintro i e H ⟨e1, e3, e10, e11, e12, hi, J, rfl, hg⟩
  by_cases hlt : i < cs.length
  · have ew := wrap_next hlt (by omega)
    have k := T_idxF r.cols cs[i] (by omega)
    have hnx : ps.take (i + 1) = ps.take i ++ [idxF r.cols cs[i]] := by rw [take_next (by omega), hpi i hlt]
    have hml : (ps.take i).length = i := by simp; omega
    simp [e1, e3, e10, e11, e12, hlt]
    refine TS.callW k (Dws.self (by simp)) ?_
    rcases hg with ⟨ge, gx⟩ | ⟨t, gx, ht⟩
    · rw [avs_eq_nil] at ge
      simp [e1, e3, e10, e11, e12, hlt, gx]
      refine ⟨i + 1, by omega, ew, by omega, ?_⟩
      rw [hnx]
      exact GrowK.first ge rfl
    · have hw := ht
      simp only [avs_length] at hw
      simp [e1, e3, e10, e11, e12, hlt, gx, hw]
      refine ⟨by omega, i + 1, by omega, ew, by omega, ?_⟩
      rw [hnx]
      exact GrowK.more ht (by omega)
  · have : i = cs.length := by omega
    subst this
    rw [← hpl, List.take_length] at hg
    obtain ⟨own, gx⟩ := hg.own
    have k := T_pick4 row ps (by omega) (by omega)
    have he : ps.map (pickF row) = valsF r.cols row cs := by rw [hps, List.map_map]; rfl
    rw [he] at k
    simp [e1, e3, e10, e11, e12, gx]
    refine TS.callW k (.cons (.self (by simp)) (.cons (.sl (Dws.self (by simp))) .nil)) ?_
    simp
theorem T_rvalue24 (r : Rel) (row : List Val) (c : Int) (hr : r.cols.length ≤ 1000) (hrow : row.length ≤ 1000) : T Tryd.prog 45 [r.av, rowA row, .int .i64 c] (pickF row (idxF r.cols c)).av := by
  refine T.introF (TS.body mix Tryd.func45 (by kernel_rfl) rfl (by kernel_rfl) (by simp) ?_)
  simp
  refine vc_loop (fun i : Nat => r.cols.length - i) (fun i e H => e 1 = rowA row ∧ e 2 = .int .i64 c ∧ e 3 = .ptr 0 0 ∧ e 6 = .ptr 1 0 ∧ e 7 = .int .i64 i ∧ i ≤ r.cols.length ∧ (∃ c1 : List AV, c1.length = 3 ∧ H = [.box r.cs, .box c1]) ∧ ∀ j (h : j < r.cols.length), j < i → ¬ r.cols[j] = c) 0 ?_ ?_
  · simp
  rintro i e H ⟨e1, e2, e3, e6, e7, hi, ⟨c1, hc1, rfl⟩, hno⟩
  match c1, hc1 with
  | [u0, u1, u2], _ =>
  by_cases hlt : i < r.cols.length
  · have ew := wrap_next hlt (by omega)
    simp [e1, e2, e3, e6, e7, hlt]
    refine condK_of (fun h => ?_) (fun h => ?_)
    · simp at h
      have hix := idxF_some hlt h hno
      rw [hix]
      by_cases hw : i < row.length
      · rw [pickF_in hw]
        simp [e1, e2, e3, e6, e7, hlt, hw]
        exact Frz.of_cl2 (by simp)
      · rw [pickF_out (by omega)]
        simp [e1, e2, e3, e6, e7, hlt, hw]
        exact Frz.of_cl2 (by simp [zV4])
    · simp at h
      simp [e1, e2, e3, e6, e7, hlt]
      refine ⟨i + 1, by omega, ew, by omega, fun j hj hji => ?_⟩
      rcases Nat.lt_or_ge j i with h2 | h2
      · exact hno j hj h2
      · have : j = i := by omega
        subst this; exact h
  · have : i = r.cols.length := by omega
    subst this
    have hn : c ∉ r.cols := fun h => by
      obtain ⟨j, hj, he⟩ := List.getElem_of_mem h
      exact hno j hj hj he
    rw [idxF_none hn, pickF_out (by omega)]
    simp [e1, e2, e3, e6, e7]
    exact Frz.of_cl2 (by simp [zV4])
theorem T_rvalues24 (r : Rel) (row : List Val) (cs : List Int) (hr : r.cols.length ≤ 1000) (hrow : row.length ≤ 1000) (hc : cs.length ≤ 1000) : T Tryd.prog 25 [r.av, rowA row, .sl .no (ints' cs)] (rowA (valsF r.cols row cs)) := by
  refine T.introF (TS.body mix Tryd.func25 (by kernel_rfl) rfl (by kernel_rfl) (by simp) ?_)
  simp
  refine vc_loop (fun i : Nat => cs.length - i) (fun i e H => e 1 = rowA row ∧ e 2 = .sl .no (ints' cs) ∧ e 3 = .ptr 0 0 ∧ e 8 = .int .i64 i ∧ i ≤ cs.length ∧ ∃ J, H = .box r.cs :: J ∧ GrowK 1 3 J (e 7) (vals' (valsF r.cols row (cs.take i)))) 0 ?_ ?_
  · simp [GrowK, valsF]
  rintro i e H ⟨e1, e2, e3, e8, hi, J, rfl, hg⟩
  by_cases hlt : i < cs.length
  · have ew := wrap_next hlt (by omega)
    have k := T_rvalue24 r row cs[i] hr hrow
    have hnx : valsF r.cols row (cs.take (i + 1)) = valsF r.cols row (cs.take i) ++ [pickF row (idxF r.cols cs[i])] := by unfold valsF; rw [take_next hlt, List.map_append]; rfl
    have hml : (valsF r.cols row (cs.take i)).length = i := by simp [valsF]; omega
    simp [e1, e2, e3, e8, hlt]
    refine TDK.callW k (Dws.self (by simp)) ?_
    rcases hg with ⟨ge, gx⟩ | ⟨t, gx, ht⟩
    · rw [avs_eq_nil] at ge
      simp [e1, e2, e3, e8, hlt, gx]
      refine ⟨i + 1, by omega, ew, by omega, ?_⟩
      rw [hnx]
      exact GrowK.first (f := Val.av) ge rfl
    · have hw := ht
      simp only [avs_length] at hw
      simp [e1, e2, e3, e8, hlt, gx, hw]
      refine ⟨by omega, i + 1, by omega, ew, by omega, ?_⟩
      rw [hnx]
      exact GrowK.more (f := Val.av) ht (by omega)
  · have : i = cs.length := by omega
    subst this
    rw [List.take_length] at hg
    obtain ⟨own, gx⟩ := hg.own
    simp [e1, e2, e3, e8, gx]
    exact Frz.slN (f := Val.av)
end Go.Proofs.YtjplcdeaedflpaaDoor.PL
