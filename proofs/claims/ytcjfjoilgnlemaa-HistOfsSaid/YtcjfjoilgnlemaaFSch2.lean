/- What the reference tells of tables, and the law of checks. -/
import Derived.Test.YtcjfjoilgnlemaaFSch
namespace Go.Proofs.Ytcjfjoilgnlemaa.PL
open Go.Proofs
set_option linter.unusedVariables false
set_option linter.unusedSimpArgs false


def muchTL : List Tab → Int → Bool
  | [], _ => false
  | t :: ts, n => if much t.rows = true ∨ 400 < n + t.cols.length + t.rows.length ∨ 100 < t.name.size then true else if (t.cols.any fun c => decide (100 < c.name.size)) = true then true else muchTL ts (n + t.cols.length + t.rows.length)
def muchT (ts : List Tab) : Bool := muchTL (ts.take 20) 0 || decide (18 < ts.length)
structure TabIn (t : Tab) : Prop where
  cols : t.cols.length ≤ 140737488355328
  rows : t.rows.length ≤ 140737488355328
  row : ∀ r, r ∈ t.rows → r.length < 4611686018427387904 ∧ ∀ v, v ∈ r → valIn v
theorem muchTL_no : ∀ {ts : List Tab} {n : Int}, muchTL ts n = false → ∀ t, t ∈ ts → t.name.size ≤ 100 ∧ ∀ c, c ∈ t.cols → c.name.size ≤ 100
  | [], _, _, t, ht => by cases ht
  | u :: ts, n, h, t, ht => by
    unfold muchTL at h
    split at h
    · cases h
    · rename_i h1
      split at h
      · cases h
      · rename_i h2
        rcases List.mem_cons.1 ht with rfl | ht
        · refine ⟨by omega, fun c hc => ?_⟩
          have h3 : (t.cols.any fun c => decide (100 < c.name.size)) = false := by simpa using h2
          rw [List.any_eq_false] at h3
          have := h3 c hc
          simp at this; omega
        · exact muchTL_no h t ht
theorem muchT_no {ts : List Tab} (h : muchT ts = false) : ts.length ≤ 18 ∧ ∀ t, t ∈ ts → t.name.size ≤ 100 ∧ ∀ c, c ∈ t.cols → c.name.size ≤ 100 := by
  unfold muchT at h
  simp at h
  refine ⟨h.2, ?_⟩
  have h1 := h.1
  rw [List.take_of_length_le (by omega)] at h1
  exact muchTL_no h1
theorem T_muchT (ts : List Tab) (hl : ts.length < 4611686018427387904) (ok : ∀ t, t ∈ ts → TabIn t) : T Try.prog 23 [.sl .no (avs Tab.av ts)] (.bool (muchT ts)) := by
  refine T.intro (TS.body mix Try.func23 (by kernel_rfl) rfl (by kernel_rfl) (by simp) ?_)
  simp
  refine vc_loop (fun i : Nat => 20 - i) (fun i e H => ∃ n : Int, e 0 = .sl .no (avs Tab.av ts) ∧ e 3 = .int .i64 n ∧ e 4 = .int .i64 i ∧ 0 ≤ n ∧ n ≤ 400 ∧ i ≤ 20 ∧ i ≤ ts.length ∧ muchT ts = (muchTL ((ts.take 20).drop i) n || decide (18 < ts.length))) 0 ?_ ?_
  · exact ⟨0, by simp [muchT]⟩
  rintro i e H ⟨n, h0, h3, h4, hn, hn2, hi, hi2, hm⟩
  by_cases hlt : i < ts.length ∧ i < 20
  · have hlt' : i < (ts.take 20).length := by rw [List.length_take]; omega
    have ed : (ts.take 20).drop i = ts[i] :: (ts.take 20).drop (i + 1) := by rw [List.drop_eq_getElem_cons hlt', List.getElem_take]
    have hok := ok _ (List.getElem_mem hlt.1)
    have ew := wrap_next hlt.1 (by omega)
    rw [ed, muchTL] at hm
    generalize hX : ts[i] = t at *
    have h20 : ((i : Int) < 20) = True := eq_true (by omega)
    have hc1 := hok.cols
    have hc2 := hok.rows
    have w1 : IntKind.i64.wrap (n + t.cols.length) = n + t.cols.length := wrap_i64 (by omega) (by omega)
    have w2 : IntKind.i64.wrap (n + t.cols.length + t.rows.length) = n + t.cols.length + t.rows.length := wrap_i64 (by omega) (by omega)
    simp [h0, h3, h4, hlt.1, h20, hX, w1, w2]
    refine TS.call' (T_much t.rows (by omega) fun r hr v hv => ((hok.row r hr).2 v hv).2.2) (by simp) ?_
    simp [h0, h3, h4, hlt.1, h20, hX, w1, w2]
    repeat (refine ⟨by grind, ?_⟩)
    refine condK_of (fun q1 => ?_) (fun q1 => ?_)
    · simp at q1
      rw [if_pos (by grind)] at hm
      simp [hm]
    simp at q1
    rw [if_neg (by grind)] at hm
    simp [h0, h3, h4, hlt.1, h20, hX]
    refine vc_loop (fun j : Nat => t.cols.length - j) (fun j e H => e 0 = .sl .no (avs Tab.av ts) ∧ e 3 = .int .i64 (n + t.cols.length + t.rows.length) ∧ e 4 = .int .i64 i ∧ e 5 = .int .i64 j ∧ j ≤ t.cols.length ∧ (t.cols.any fun c => decide (100 < c.name.size)) = ((t.cols.drop j).any fun c => decide (100 < c.name.size))) 0 ?_ ?_
    · simp [h0, h3, h4]
    clear h0 h3 h4 e
    rintro j e H ⟨h0, h3, h4, h5, hj, hany⟩
    by_cases hjl : j < t.cols.length
    · have hdj : t.cols.drop j = t.cols[j] :: t.cols.drop (j + 1) := List.drop_eq_getElem_cons hjl
      have ewj := wrap_next hjl (by omega)
      rw [hdj, List.any_cons] at hany
      simp [h0, h3, h4, h5, hlt.1, hX, hjl]
      refine condK_of (fun q2 => ?_) (fun q2 => ?_)
      · simp at q2
        rw [if_pos (by rw [hany]; simp; left; omega)] at hm
        simp [hm]
      · simp at q2
        have : decide (100 < t.cols[j].name.size) = false := by simp; omega
        rw [this, Bool.false_or] at hany
        simp [h0, h3, h4, h5, hlt.1, hX, hjl]
        exact ⟨j + 1, by omega, ewj, by omega, hany⟩
    · have : j = t.cols.length := by omega
      subst this
      rw [List.drop_length, List.any_nil] at hany
      rw [if_neg (by rw [hany]; simp)] at hm
      simp [h0, h3, h4, h5, hlt.1, hX]
      exact ⟨i + 1, by omega, ew, by omega, by omega, by omega, by omega, hm⟩
  · have hc : (decide (i < ts.length) && decide ((i : Int) < 20)) = false := by simp; omega
    have he : (ts.take 20).drop i = [] := List.drop_of_length_le (by rw [List.length_take]; omega)
    simp [h0, h3, h4, hc]
    rw [hm, he]; simp [muchTL]; try omega
theorem Col_in {cs : List AV} (h : Sh Try.prog 106 cs) : ∃ c : Col, mkAV true cs = c.av ∧ True := by
  obtain ⟨hl, hf⟩ := h.struct_of ft_106
  obtain ⟨x, y, rfl⟩ : ∃ x y, cs = [x, y] := by
    match cs, hl with
    | [x, y], _ => exact ⟨x, y, rfl⟩
  obtain ⟨s, h1, w1⟩ := (hf (9, 0, 1) (by simp)).str_of un_9
  obtain ⟨k, h2, w2⟩ := (hf (3, 1, 1) (by simp)).int_of un_3
  simp at h1 h2
  subst h1; subst h2
  exact ⟨⟨s, k⟩, rfl, trivial⟩
theorem Tab_in {cs : List AV} (h : Sh Try.prog 43 cs) : ∃ t : Tab, mkAV true cs = t.av ∧ TabIn t := by
  have hr := reach_lt
  obtain ⟨hl, hf⟩ := h.struct_of ft_43
  obtain ⟨x, y, z, rfl⟩ : ∃ x y z, cs = [x, y, z] := by
    match cs, hl with
    | [x, y, z], _ => exact ⟨x, y, z, rfl⟩
  obtain ⟨s, h1, w1⟩ := (hf (9, 0, 1) (by simp)).str_of un_9
  obtain ⟨ys, h2, hy, hyl⟩ := (hf (40, 1, 1) (by simp)).sl_of un_40 ag_106
  obtain ⟨zs, h3, hz, hzl⟩ := (hf (41, 2, 1) (by simp)).sl_of un_41 ag_108
  simp at h1 h2 h3
  subst h1; subst h2; subst h3
  obtain ⟨cols, ec, elc, _⟩ := list_in (f := Col.av) (g := mkAV true) (Q := fun _ => True) (fun y hy' => Col_in (hy y hy'))
  obtain ⟨rows, er, elr, hrow⟩ := list_in (f := rowA) (g := mkAV false) (Q := fun r => r.length < 4611686018427387904 ∧ ∀ v, v ∈ r → valIn v) (fun z hz' => by
    obtain ⟨l, e, hv, hlen⟩ := vals_in (hz z hz')
    exact ⟨l, by rw [e]; rfl, hlen, hv⟩)
  have b1 : 1 ≤ Try.prog.bytesOf 106 := by decide +kernel
  have b2 : 1 ≤ Try.prog.bytesOf 108 := by decide +kernel
  have m1 := Nat.mul_le_mul_left ys.length b1
  have m2 := Nat.mul_le_mul_left zs.length b2
  exact ⟨⟨s, cols, rows⟩, by rw [ec, er]; rfl, by show cols.length ≤ _; omega, by show rows.length ≤ _; omega, hrow⟩
theorem tabs_in {cs : List AV} (h : Sh Try.prog 45 cs) : ∃ ts : List Tab, cs = [.sl .no (avs Tab.av ts)] ∧ (∀ t, t ∈ ts → TabIn t) ∧ ts.length < 4611686018427387904 := by
  obtain ⟨ys, rfl, hy, b⟩ := h.sl_of un_45 ag_43
  obtain ⟨l, e, el, hl⟩ := list_in (f := Tab.av) (g := mkAV true) (Q := TabIn) (fun y hy' => Tab_in (hy y hy'))
  have hb : 1 ≤ Try.prog.bytesOf 43 := by decide +kernel
  have hr := reach_lt
  have := Nat.mul_le_mul_left ys.length hb
  exact ⟨l, by rw [e]; rfl, hl, by omega⟩


end Go.Proofs.Ytcjfjoilgnlemaa.PL
