/- What is said of tables: the statement. -/
import Derived.Test.YtcjfjoilgnlemaaFHeld5
namespace Go.Proofs.Ytcjfjoilgnlemaa.PL
open Go.Proofs
set_option linter.unusedVariables false
set_option linter.unusedSimpArgs false
theorem heldC_twice {r : Int} (hr : 0 ≤ r) (x : CSt) : heldC r (heldC r x) = heldC r x := by
  have hn : nearF (nearF x.nul r) r = nearF x.nul r := by
    have := nearF_in (n := x.nul) hr
    unfold nearF at *; omega
  have hm : sortI ((sortI (x.marks.take 9)).take 9) = sortI (x.marks.take 9) := by
    rw [List.take_of_length_le (by rw [sortI_len, List.length_take]; omega)]
    exact (sort_eq (sortI_sorted _) (List.Perm.refl _)).symm
  have hu : nearF (nearF x.unl (r - nearF x.nul r)) (r - nearF x.nul r) = nearF x.unl (r - nearF x.nul r) := by
    have h1 := nearF_in (n := x.nul) hr
    obtain ⟨d, hd⟩ : ∃ d, d = r - nearF x.nul r := ⟨_, rfl⟩
    rw [← hd]
    have := nearF_in (n := x.unl) (h := d) (by omega)
    unfold nearF at *; omega
  show CSt.mk _ _ _ = _
  simp only [heldC, hn, hm, hu]
theorem cutF_twice (n : Int) : cutF (cutF n) = cutF n := by unfold cutF; omega
theorem heldF_twice (s : Sta) (cols : Int) : heldF (heldF s cols) cols = heldF s cols := by
  have hc := cutF_in s.rows
  obtain ⟨n, hn⟩ : ∃ n, n = (nearF cols 16).toNat := ⟨_, rfl⟩
  have hk : ∀ c, c < n → colI (heldF s cols) c = heldC (cutF s.rows) (colI s c) := fun c hcn => by
    have hl : c < (heldF s cols).cols.length := by simp only [heldF, ← hn, heldK_len]; exact hcn
    rw [colI_in hl]
    simp [heldF, heldK]
  have h1 : (heldF (heldF s cols) cols).cols = (heldF s cols).cols := by
    show heldK (heldF s cols) _ = heldK s _
    rw [← hn]
    apply List.map_congr_left
    intro c hcm
    rw [hk c (by simpa using hcm)]
    show heldC (cutF (cutF s.rows)) _ = _
    rw [cutF_twice, heldC_twice hc.1]
  exact sta_eq.2 ⟨cutF_twice _, h1⟩
theorem heldF_ok (s : Sta) (cols : Int) : OkS (heldF s cols) := by
  obtain ⟨_, h2⟩ := near16 cols
  refine ⟨by simp only [heldF, heldK_len]; omega, fun x hx => ?_⟩
  obtain ⟨c, _, rfl⟩ := List.mem_map.1 hx
  simp only [heldC, sortI_len, List.length_take]
  omega
theorem T_hright (s : Sta) (cols : Int) (hs : OkS s) : T Try.prog 20 [s.av, .int .i64 cols] (.bool (decide (heldF s cols = s))) := by
  have kh := T_held s cols hs
  have ho := heldF_ok s cols
  have hd : decide (heldF s cols = s) = (decide ((heldF s cols).rows = s.rows) && decide ((heldF s cols).cols = s.cols)) := by
    rw [← Bool.decide_and]
    exact decide_eq_decide.2 sta_eq
  rw [hd]
  obtain ⟨h, hh⟩ : ∃ h, h = heldF s cols := ⟨_, rfl⟩
  rw [← hh] at kh ho ⊢
  have ke := T_equalCols h.cols s.cols ho.len ho.ms
  refine T.intro (TS.body mix Try.func20 (by kernel_rfl) rfl (by kernel_rfl) (by simp) ?_)
  simp
  refine TS.callW kh (Dws.self (by simp)) ?_
  simp
  refine GTK.callW (fun _ => ⟨ke, Dws.self (by simp)⟩) ?_
  simp
set_option maxRecDepth 4000 in
theorem T_HistHeld (s : Sta) (cols c : Int) (hl : s.cols.length < 4611686018427387904) : T Try.prog 4 [s.av, .int .i64 cols, .int .i64 c] (.bool true) := by
  have km := T_much27 s hl
  refine T.intro (TS.body mix Try.func4 (by kernel_rfl) rfl (by kernel_rfl) (by simp) ?_)
  simp
  refine TS.callW km (Dws.self (by simp)) ?_
  cases hm : muchS s with
  | true =>
    simp
    refine TS.callW T_live27 .nil ?_
    simp
  | false =>
  obtain ⟨q1, q2⟩ := muchS_no hm
  have hs : OkS s := ⟨by omega, fun x hx => by have := q2 x hx; omega⟩
  have k1 := T_held s cols hs
  have k2 := T_rheld27 s cols hs
  have ho := heldF_ok s cols
  have k3 := T_rsame27 (heldF s cols) (heldF s cols) ho
  have k4 := T_hright s cols hs
  have k5 := T_rsame27 s (heldF s cols) hs
  have k6 := T_hright (heldF s cols) cols ho
  rw [heldF_twice] at k6
  have k7 := T_hcol s c hs
  have k8 := T_sameCol (colI s c) (colI s c) (colI_ok hs c)
  obtain ⟨h, hh⟩ : ∃ h, h = heldF s cols := ⟨_, rfl⟩
  rw [← hh] at k1 k2 k3 k4 k5 k6
  have hsw : decide (s = h) = decide (h = s) := decide_eq_decide.2 eq_comm
  rw [hsw] at k5
  simp only [decide_true] at k3 k6 k8
  simp
  refine TS.callW k1 (Dws.self (by simp)) ?_
  by_cases hc0 : 0 ≤ c
  · by_cases hc1 : c < s.cols.length
    · obtain ⟨n, rfl⟩ := Int.eq_ofNat_of_zero_le hc0
      have hn : n < s.cols.length := by omega
      rw [colI_in hn] at k7 k8
      simp [hn, hc1]
      refine TDK.callW k2 (Dws.self (by simp)) ?_
      simp
      refine TDK.callW k3 (Dws.self (by simp)) ?_
      simp
      refine GTK.callW (fun _ => ⟨k4, Dws.self (by simp)⟩) ?_
      simp
      refine GTK.callW (fun _ => ⟨k2, Dws.self (by simp)⟩) ?_
      simp
      refine GTK.callW (fun _ => ⟨k5, Dws.self (by simp)⟩) ?_
      simp
      refine GTK.callW (fun _ => ⟨k6, Dws.self (by simp)⟩) ?_
      simp
      refine GTK.callW (fun _ => ⟨k7, Dws.self (by simp)⟩) ?_
      simp
      refine GTK.callW (fun _ => ⟨k8, Dws.self (by simp)⟩) ?_
      simp
      refine GTK.callW (fun _ => ⟨T_live27, .nil⟩) ?_
      simp
    · have hc1' : ¬ c < s.cols.length := hc1
      have hcz : colI s c = zC := by unfold colI; rw [if_neg (by omega)]
      rw [hcz] at k7 k8
      have k7' : T Try.prog 22 [s.av, .int .i64 c] (.agg [.int .i64 0, .int .i64 0, .sl .no []]) := k7
      have k8' : T Try.prog 21 [.agg [.int .i64 0, .int .i64 0, .sl .no []], .agg [.int .i64 0, .int .i64 0, .sl .no []]] (.bool true) := k8
      simp [hc0, hc1']
      refine TDK.callW k2 (Dws.self (by simp)) ?_
      simp [hc0, hc1']
      refine TDK.callW k3 (Dws.self (by simp)) ?_
      simp [hc0, hc1']
      refine GTK.callW (fun _ => ⟨k4, Dws.self (by simp)⟩) ?_
      simp [hc0, hc1']
      refine GTK.callW (fun _ => ⟨k2, Dws.self (by simp)⟩) ?_
      simp [hc0, hc1']
      refine GTK.callW (fun _ => ⟨k5, Dws.self (by simp)⟩) ?_
      simp [hc0, hc1']
      refine GTK.callW (fun _ => ⟨k6, Dws.self (by simp)⟩) ?_
      simp [hc0, hc1']
      refine GTK.callW (fun _ => ⟨k7', Dws.self (by simp)⟩) ?_
      simp [hc0, hc1']
      refine GTK.callW (fun _ => ⟨k8', .cons (.agg (.cons (.self rfl) (.cons (.self rfl) (.cons (.sl .nil) .nil)))) (.cons (.agg (.cons (.self rfl) (.cons (.self rfl) (.cons (.sl .nil) .nil)))) .nil)⟩) ?_
      simp [hc0, hc1']
      refine GTK.callW (fun _ => ⟨T_live27, .nil⟩) ?_
      simp
  · have hc0' : ¬ 0 ≤ c := hc0
    have hcz : colI s c = zC := by unfold colI; rw [if_neg (by omega)]
    rw [hcz] at k7 k8
    have k7' : T Try.prog 22 [s.av, .int .i64 c] (.agg [.int .i64 0, .int .i64 0, .sl .no []]) := k7
    have k8' : T Try.prog 21 [.agg [.int .i64 0, .int .i64 0, .sl .no []], .agg [.int .i64 0, .int .i64 0, .sl .no []]] (.bool true) := k8
    simp [hc0']
    refine TDK.callW k2 (Dws.self (by simp)) ?_
    simp [hc0']
    refine TDK.callW k3 (Dws.self (by simp)) ?_
    simp [hc0']
    refine GTK.callW (fun _ => ⟨k4, Dws.self (by simp)⟩) ?_
    simp [hc0']
    refine GTK.callW (fun _ => ⟨k2, Dws.self (by simp)⟩) ?_
    simp [hc0']
    refine GTK.callW (fun _ => ⟨k5, Dws.self (by simp)⟩) ?_
    simp [hc0']
    refine GTK.callW (fun _ => ⟨k6, Dws.self (by simp)⟩) ?_
    simp [hc0']
    refine GTK.callW (fun _ => ⟨k7', Dws.self (by simp)⟩) ?_
    simp [hc0']
    refine GTK.callW (fun _ => ⟨k8', .cons (.agg (.cons (.self rfl) (.cons (.self rfl) (.cons (.sl .nil) .nil)))) (.cons (.agg (.cons (.self rfl) (.cons (.self rfl) (.cons (.sl .nil) .nil)))) .nil)⟩) ?_
    simp [hc0']
    refine GTK.callW (fun _ => ⟨T_live27, .nil⟩) ?_
    simp
theorem Cst_in {cs : List AV} (h : Sh Try.prog 34 cs) : ∃ x : CSt, cs = x.cs := by
  obtain ⟨hl, hf⟩ := h.struct_of ft_34
  match cs, hl, hf with
  | [x0, x1, x2], _, hf =>
    obtain ⟨a, h0, _⟩ := (hf (3, 0, 1) (by simp)).int_of un_3
    obtain ⟨b, h1, _⟩ := (hf (3, 1, 1) (by simp)).int_of un_3
    obtain ⟨c, h2, _⟩ := ints_in (hf (22, 2, 1) (by simp))
    simp at h0 h1 h2
    subst h0 h1 h2
    exact ⟨⟨a, b, c⟩, rfl⟩
theorem Sta_in {cs : List AV} (h : Sh Try.prog 30 cs) : ∃ x : Sta, cs = x.cs ∧ x.cols.length < 4611686018427387904 := by
  obtain ⟨hl, hf⟩ := h.struct_of ft_30
  match cs, hl, hf with
  | [x0, x1], _, hf =>
    obtain ⟨a, h0, _⟩ := (hf (3, 0, 1) (by simp)).int_of un_3
    obtain ⟨ys, h1, hy, bb⟩ := (hf (28, 1, 1) (by simp)).sl_of un_28 ag_34
    obtain ⟨b, b1, b2, _⟩ := list_in (f := CSt.av) (g := mkAV true) (Q := fun _ => True) (fun y hy' => by
      obtain ⟨x, h1⟩ := Cst_in (hy y hy')
      exact ⟨x, by rw [h1]; rfl, trivial⟩)
    have by1 : Try.prog.bytesOf 34 ≠ 0 := by decide +kernel
    have hbl : b.length < 4611686018427387904 := by
      have h1 : b.length * 1 ≤ b.length * Try.prog.bytesOf 34 := Nat.mul_le_mul_left _ (by omega)
      rw [← b2] at bb
      have := reach_lt'
      omega
    rw [b1] at h1
    simp at h0 h1
    subst h0 h1
    exact ⟨⟨a, b⟩, rfl, hbl⟩
theorem S_HistHeld {xs : List AV} (h : ShA Try.prog [30, 3, 3] xs) : T Try.prog 4 xs (.bool true) := by
  obtain ⟨y, r, rfl, h0, h⟩ := h.cons_of ag_30
  obtain ⟨y, r, rfl, h1, h⟩ := h.cons_of ag_3
  obtain ⟨y, r, rfl, h2, h⟩ := h.cons_of ag_3
  obtain rfl := h.nil_of
  obtain ⟨s, rfl, hl⟩ := Sta_in h0
  obtain ⟨cols, rfl, _⟩ := h1.int_of un_3
  obtain ⟨c, rfl, _⟩ := h2.int_of un_3
  exact T_HistHeld s cols c hl
end Go.Proofs.Ytcjfjoilgnlemaa.PL
