/- Ears tell a join tree. -/
import Derived.Test.YtahpoodcmeoabaaFJt8
namespace Go.Proofs.Ytahpoodcmeoabaa.PL
open Go.Proofs
set_option linter.unusedVariables false
set_option linter.unusedSimpArgs false
theorem elt_conn {V : Nat → Int → Prop} {f : Nat → Option Nat} {L : Nat → Prop} (h : Gy.ElT V f L) : ∀ a b v, L a → L b → V a v → V b v → Wk (nbr f) (fun k => V k v) a b := by
  induction h with
  | @one L r h hf =>
    intro a b v ha hb hva hvb
    have ea := (h a).1 ha
    have eb := (h b).1 hb
    subst ea
    subst eb
    exact .refl hva
  | @step L i p he hf t ih =>
    obtain ⟨i1, i2, i3, i4⟩ := he
    intro a b v ha hb hva hvb
    by_cases hai : a = i
    · subst hai
      by_cases hbi : b = a
      · subst hbi; exact .refl hva
      · have hp := i4 b hb hbi v hva hvb
        exact .step hva (.inl hf) (ih p b v ⟨i2, i3⟩ ⟨hb, hbi⟩ hp hvb)
    · by_cases hbi : b = i
      · subst hbi
        have hp := i4 a ha hai v hvb hva
        exact (ih a p v ⟨ha, hai⟩ ⟨i2, i3⟩ hva hp).trans (.step hp (.inr hf) (.refl hvb))
      · exact ih a b v ⟨ha, hai⟩ ⟨hb, hbi⟩ hva hvb
/-- the parents of an acyclic hypergraph hang together -/
theorem par_conn {h : List (List Int)} (hn : 0 < h.length) (ha : acyI h = true) : ∀ v a b, vx h a v → vx h b v → Wk (nbr (fOf (parI h))) (fun k => vx h k v) a b := by
  obtain ⟨r, hr⟩ := (acy_iff h hn).1 ha
  have hrn : r < h.length := by have := lf_lt ((hr r).2 rfl); have := (playI_len h).1; omega
  have hrun := playI_run h
  obtain ⟨m1, m2⟩ := hrun.mem
  have f1 : ∀ x, x ∈ (playI h).1 → fOf (parI h) x.1 = some x.2 := fun x hx => fOf_some (parF_get hrun.nodup hx (by simpa using (m1 x hx).1))
  have f2 : fOf (parI h) r = none := fOf_none (by
    unfold parI
    rw [parF_not fun x hx e => (m1 x hx).2.2 ((hr _).2 e)]
    simp [hrn])
  have het := hrun.elt hr f1 f2
  exact fun v a b hva hvb => elt_conn het a b v (vx_lt hva) (vx_lt hvb) hva hvb
/-! ### by vertices -/
def topB (h : List (List Int)) (q : List Int) (v : Int) (i : Nat) : Bool := decide (v ∈ h.getD i []) && (decide (q.getD i (-1) < 0) || (decide ((h.length : Int) ≤ q.getD i (-1)) || !decide (v ∈ h.getD (q.getD i (-1)).toNat [])))
def topsN (h : List (List Int)) (q : List Int) (v : Int) (m : Nat) : Nat := ((List.range m).filter (topB h q v)).length
theorem topsN_next (h : List (List Int)) (q : List Int) (v : Int) (m : Nat) : topsN h q v (m + 1) = topsN h q v m + if topB h q v m = true then 1 else 0 := by
  unfold topsN
  rw [List.range_succ, List.filter_append, List.length_append]
  by_cases c : topB h q v m = true <;> simp [c]
theorem topsN_le (h : List (List Int)) (q : List Int) (v : Int) (m : Nat) : topsN h q v m ≤ m := by
  unfold topsN
  exact Nat.le_trans (List.length_filter_le _ _) (by simp)
set_option maxRecDepth 4000 in
theorem T_tops (h : List (List Int)) (q : List Int) (v : Int) (hh : HsOk h) (hl : q.length = h.length) : T Try.prog 105 [.sl .no (lists' h), .sl .no (ints' q), .int .i64 v] (.int .i64 (topsN h q v h.length : Nat)) := by
  have hn := hh.n
  have hs := hh.s
  refine T.intro (TS.body mix Try.func105 (by kernel_rfl) rfl (by kernel_rfl) (by simp) ?_)
  simp
  refine vc_loop (fun i : Nat => h.length - i) (fun i e H => e 0 = .sl .no (lists' h) ∧ e 1 = .sl .no (ints' q) ∧ e 2 = .int .i64 v ∧ e 7 = .int .i64 (topsN h q v i : Nat) ∧ e 8 = .int .i64 i ∧ i ≤ h.length) 0 ?_ ?_
  · simp [topsN]
  rintro i e H ⟨e0, e1, e2, e7, e8, hi⟩
  by_cases hlt : i < h.length
  case neg =>
    have : i = h.length := by omega
    subst this
    simp [e0, e1, e2, e7, e8]
  have hq : i < q.length := by omega
  have ew := wrap_next hlt (by omega)
  have hnx := topsN_next h q v i
  have hle := topsN_le h q v i
  have ewt : IntKind.i64.wrap (((topsN h q v i : Nat) : Int) + 1) = ((topsN h q v i + 1 : Nat) : Int) := by rw [wrap_i64 (by omega) (by omega)]; omega
  have k1 := T_has21 h[i] v (by have := hs _ (List.getElem_mem hlt); omega)
  have hgi : h.getD i [] = h[i] := by simp [hlt]
  have hgq : q.getD i (-1) = q[i] := by simp [hq]
  have htb : topB h q v i = (decide (v ∈ h[i]) && (decide (q[i] < 0) || (decide ((h.length : Int) ≤ q[i]) || !decide (v ∈ h.getD (q[i]).toNat [])))) := by
    unfold topB; rw [hgi, hgq]
  simp [e0, e1, e2, e7, e8, hlt, hq]
  refine TS.callW k1 (Dws.self (by simp)) ?_
  by_cases c1 : v ∈ h[i]
  case neg =>
    rw [decide_eq_false c1, Bool.false_and] at htb
    rw [htb] at hnx
    simp at hnx
    simp [e0, e1, e2, e7, e8, hlt, hq, c1]
    exact ⟨i + 1, by omega, by rw [hnx], ew, by omega⟩
  rw [decide_eq_true c1, Bool.true_and] at htb
  obtain ⟨p, hp⟩ : ∃ p, p = q[i] := ⟨_, rfl⟩
  rw [← hp] at htb
  by_cases c2 : p < 0
  · rw [decide_eq_true c2, Bool.true_or] at htb
    rw [htb] at hnx
    simp at hnx
    cases hz : h[p.toNat]? <;> simp [e0, e1, e2, e7, e8, hlt, hq, c1, ← hp, c2, hz] <;> refine GTK.callW (fun h => nomatch h) (ys := []) (r := .bool true) ?_ <;> simp [e0, e1, e2, e7, e8, hlt, hq, c1, ← hp, c2, hz] <;> exact ⟨i + 1, by omega, by rw [hnx]; exact ewt, ew, by omega⟩
  rw [decide_eq_false c2, Bool.false_or] at htb
  by_cases c3 : (h.length : Int) ≤ p
  · rw [decide_eq_true c3, Bool.true_or] at htb
    rw [htb] at hnx
    simp at hnx
    cases hz : h[p.toNat]? <;> simp [e0, e1, e2, e7, e8, hlt, hq, c1, ← hp, c2, c3, hz] <;> refine GTK.callW (fun h => nomatch h) (ys := []) (r := .bool true) ?_ <;> simp [e0, e1, e2, e7, e8, hlt, hq, c1, ← hp, c2, c3, hz] <;> exact ⟨i + 1, by omega, by rw [hnx]; exact ewt, ew, by omega⟩
  rw [decide_eq_false c3, Bool.false_or] at htb
  obtain ⟨m, hm⟩ : ∃ m : Nat, p = (m : Int) := ⟨p.toNat, by omega⟩
  have hmh : m < h.length := by omega
  have hnm : ¬ h.length ≤ m := by omega
  have hm0 : ¬ (m : Int) < 0 := by omega
  rw [hm] at hp
  have k2 := T_has21 h[m] v (by have := hs _ (List.getElem_mem hmh); omega)
  have hgm : h.getD p.toNat [] = h[m] := by rw [hm]; simp [hmh]
  rw [hgm] at htb
  simp [e0, e1, e2, e7, e8, hlt, hq, c1, ← hp, hm0, hnm, hmh]
  refine GTK.callW (fun _ => ⟨k2, Dws.self (by simp)⟩) ?_
  by_cases c4 : v ∈ h[m]
  · rw [decide_eq_true c4] at htb
    rw [htb] at hnx
    simp at hnx
    simp [e0, e1, e2, e7, e8, hlt, hq, c1, ← hp, hm0, hnm, hmh, c4]
    exact ⟨i + 1, by omega, by rw [hnx], ew, by omega⟩
  · rw [decide_eq_false c4] at htb
    rw [htb] at hnx
    simp at hnx
    simp [e0, e1, e2, e7, e8, hlt, hq, c1, ← hp, hm0, hnm, hmh, c4]
    exact ⟨i + 1, by omega, by rw [hnx]; exact ewt, ew, by omega⟩
theorem filter_one {p : Nat → Bool} {n t : Nat} (ht : t < n) (hp : p t = true) (hu : ∀ k, k < n → p k = true → k = t) : ((List.range n).filter p).length = 1 := by
  have hm : t ∈ (List.range n).filter p := List.mem_filter.2 ⟨by simpa using ht, hp⟩
  have hnd : ((List.range n).filter p).Nodup := List.Nodup.sublist List.filter_sublist List.nodup_range
  have hall : ∀ k, k ∈ (List.range n).filter p → k = t := fun k hk => by
    obtain ⟨h1, h2⟩ := List.mem_filter.1 hk
    exact hu k (by simpa using h1) h2
  generalize (List.range n).filter p = F at *
  match F with
  | [] => cases hm
  | [a] => rfl
  | a :: b :: F =>
    rw [List.nodup_cons] at hnd
    exact absurd (by rw [hall a (by simp), hall b (by simp)]; simp) hnd.1
theorem topB_iff {h : List (List Int)} {q : List Int} {v : Int} {i : Nat} (htr : treeI q = true) (hl : q.length = h.length) (hi : i < h.length) : topB h q v i = true ↔ vx h i v ∧ ∀ p, fOf q i = some p → ¬ vx h p v := by
  have hiq : i < q.length := by omega
  have hp := tree_par htr hiq
  have hgq : q.getD i (-1) = q[i] := by simp [hiq]
  unfold topB vx
  rw [Bool.and_eq_true, decide_eq_true_iff, hgq]
  rcases hp with hp | hp
  · have hf : fOf q i = none := fOf_none (by rw [List.getElem?_eq_getElem hiq, hp])
    rw [hf, hp]
    simp
  · obtain ⟨m, hm⟩ : ∃ m : Nat, q[i] = (m : Int) := ⟨(q[i]).toNat, by omega⟩
    have hf : fOf q i = some m := fOf_some (by rw [List.getElem?_eq_getElem hiq, hm])
    rw [hf, hm]
    have c1 : ¬ (m : Int) < 0 := by omega
    have c2 : ¬ (h.length : Int) ≤ m := by omega
    rw [decide_eq_false c1, decide_eq_false c2]
    simp
theorem tops_one {h : List (List Int)} {q : List Int} (htr : treeI q = true) (hl : q.length = h.length) (hc : ∀ v a b, vx h a v → vx h b v → Wk (nbr (fOf q)) (fun k => vx h k v) a b) {i : Nat} {v : Int} (hv : vx h i v) : topsN h q v h.length = 1 := by
  have ht := tree_ok htr
  have hi := vx_lt hv
  obtain ⟨U, u1, u2, _⟩ := ht i (by omega)
  have ex : ∀ {a : Nat} {A : List Nat}, Gy.Up (fOf q) a A → vx h a v → ∃ t, vx h t v ∧ ∀ p, fOf q t = some p → ¬ vx h p v := by
    intro a A hA
    induction hA with
    | @root x hf => intro hx; exact ⟨x, hx, fun p hp => by rw [hf] at hp; cases hp⟩
    | @step x p A hf t ih =>
      intro hx
      by_cases hp : vx h p v
      · exact ih hp
      · exact ⟨x, hx, fun p' hp' => by rw [hf] at hp'; cases hp'; exact hp⟩
  obtain ⟨t, t1, t2⟩ := ex u1 hv
  have htn := vx_lt t1
  refine filter_one (t := t) htn ((topB_iff htr hl htn).2 ⟨t1, t2⟩) fun k hk hkt => ?_
  obtain ⟨k1, k2⟩ := (topB_iff htr hl hk).1 hkt
  refine Classical.byContradiction fun hne => ?_
  obtain ⟨A, a1, a2, _⟩ := ht k (by omega)
  obtain ⟨B, b1, b2, _⟩ := ht t (by omega)
  have hw := hc v k t k1 t1
  by_cases hkB : k ∈ B
  · have htA : t ∉ A := by
      intro hm
      -- both above one another
      obtain ⟨W, w1, w2, w3⟩ := a1.sub hm
      have e1 := w1.uniq b1
      subst e1
      obtain ⟨W2, x1, x2, x3⟩ := b1.sub hkB
      have e2 := x1.uniq a1
      subst e2
      cases b1 with
      | root hf => simp at hkB; exact hne hkB
      | @step _ p P hf hP =>
        rcases List.mem_cons.1 hkB with h | h
        · exact hne h
        · obtain ⟨W3, y1, y2, y3⟩ := hP.sub h
          have e3 := y1.uniq x1
          subst e3
          simp at w3
          omega
    obtain ⟨p, hp, hpx⟩ := ((hw.symm nbr_symm).exit b1 a1 b1.mem htA).2
    exact t2 p hp hpx
  · obtain ⟨p, hp, hpx⟩ := (hw.exit a1 b1 a1.mem hkB).2
    exact k2 p hp hpx
set_option maxRecDepth 4000 in
theorem T_hang (h : List (List Int)) (q : List Int) (hh : HsOk h) (hl : q.length = h.length) (htr : treeI q = true) (h1 : ∀ i v, vx h i v → topsN h q v h.length = 1) : T Try.prog 35 [.sl .no (lists' h), .sl .no (ints' q)] (.bool true) := by
  have hn := hh.n
  have hs := hh.s
  have kt := T_rtree q (by omega)
  rw [htr] at kt
  refine T.intro (TS.body mix Try.func35 (by kernel_rfl) rfl (by kernel_rfl) (by simp) ?_)
  simp [hl]
  refine GTK.callW (fun _ => ⟨kt, Dws.self (by simp)⟩) ?_
  simp
  refine vc_loop (fun i : Nat => h.length - i) (fun i e H => e 0 = .sl .no (lists' h) ∧ e 1 = .sl .no (ints' q) ∧ e 5 = .int .i64 i ∧ i ≤ h.length) 0 ?_ ?_
  · simp
  rintro i e H ⟨e0, e1, e5, hi⟩
  by_cases hlt : i < h.length
  case neg => simp [e0, e1, e5, hlt]
  have ew := wrap_next hlt (by omega)
  have hsi := hs _ (List.getElem_mem hlt)
  simp [e0, e1, e5, hlt]
  refine vc_loop (fun k : Nat => (h[i]).length - k) (fun k e H => e 0 = .sl .no (lists' h) ∧ e 1 = .sl .no (ints' q) ∧ e 5 = .int .i64 i ∧ e 6 = .int .i64 k ∧ k ≤ (h[i]).length) 0 ?_ ?_
  · simp [e0, e1, e5]
  clear e0 e1 e5 e H
  rintro k e H ⟨e0, e1, e5, e6, hk⟩
  by_cases hkt : k < (h[i]).length
  case neg =>
    simp [e0, e1, e5, e6, hlt, hkt]
    exact ⟨i + 1, by omega, ew, by omega⟩
  have ewk := wrap_next hkt (by omega)
  have k1 := T_tops h q (h[i])[k] hh hl
  rw [h1 i (h[i])[k] (by unfold vx; simp [hlt])] at k1
  simp [e0, e1, e5, e6, hlt, hkt]
  refine TS.callW k1 (Dws.self (by simp)) ?_
  simp [e0, e1, e5, e6, hlt, hkt]
  exact ⟨k + 1, by omega, ewk, by omega⟩
theorem T_JtreeEars (h : List (List Int)) (r : Nat) (hr8 : r < 256) (hn0 : h.length < 4611686018427387904) (hs0 : ∀ l, l ∈ h → l.length < 4611686018427387904) : T Try.prog 5 [.sl .no (lists' h), .int .u8 r] (.bool true) := by
  have km := T_much21 h hn0 hs0
  refine T.intro (TS.body mix Try.func5 (by kernel_rfl) rfl (by kernel_rfl) (by simp) ?_)
  simp
  refine TS.callW km (Dws.self (by simp)) ?_
  cases hm : muchG h with
  | true =>
    simp
    refine TS.callW T_live23 .nil ?_
    simp
  | false =>
  have hh := much_ok hm
  have hn := hh.n
  have h12 := (muchG_no hm).1
  have k1 := T_parents h hh
  have k2 := T_gacyc h hh
  simp
  cases ha : acyI h with
  | false =>
    rw [ha] at k1 k2
    simp at k1
    refine TS.callW k1 (Dws.self (by simp)) ?_
    simp
    refine TS.callW k2 (Dws.self (by simp)) ?_
    simp
    refine GTK.callW (fun _ => ⟨T_live23, .nil⟩) ?_
    simp
  | true =>
  rw [ha] at k1 k2
  simp at k1
  refine TS.callW k1 (Dws.self (by simp)) ?_
  by_cases h0 : h = []
  · subst h0
    simp
    refine TS.callW k2 (Dws.self (by simp)) ?_
    simp
    refine GTK.callW (fun _ => ⟨T_live23, .nil⟩) ?_
    simp
  have hp : 0 < h.length := List.length_pos_iff.2 h0
  have hp1 : ¬ (h.length : Int) = 0 := by omega
  have hj := par_joins ha
  have hcn := par_conn hp ha
  obtain ⟨j1, j2, j3⟩ := hj
  generalize parI h = l at *
  obtain ⟨m, hmm⟩ : ∃ m, m = r % h.length := ⟨_, rfl⟩
  have hmh : m < h.length := by rw [hmm]; exact Nat.mod_lt _ hp
  have hR := rer_ok j2 (r := m) (by omega)
  have k3 := T_rooted l m (by omega)
  have hheld : heldI l = l := by unfold heldI; rw [if_pos j2]
  rw [hheld] at k3
  have hlen := hR.len
  have hck1 : chkI h l = true := chkI_iff.2 ⟨j2, by omega, (check_conn j2 j1).2 hcn⟩
  have hck2 := rer_chk hR j2 h
  rw [hck1] at hck2
  have htq := hR.tree
  generalize rerootI l m = q at *
  have hcq := (check_conn htq (by omega)).1 (chkI_iff.1 hck2).2.2
  have k4 := T_check h l hh (by omega)
  have k5 := T_check h q hh (by omega)
  rw [hck1] at k4
  rw [hck2] at k5
  have k6 := T_hang h q hh (by omega) htq fun i v hv => tops_one htq (by omega) hcq hv
  have k7 := T_down q (by omega)
  have hheldq : heldI q = q := by unfold heldI; rw [if_pos htq]
  rw [hheldq] at k7
  have hdl := downI_len q
  have w1 : IntKind.i64.wrap (r : Int) = r := wrap_i64 (by omega) (by omega)
  have w2 : (r : Int).tmod (h.length : Int) = (m : Int) := by rw [Int.tmod_eq_emod_of_nonneg (by omega), hmm]; simp
  have hlq : (q.length : Int) = h.length := by omega
  simp [h0, hp1, w1, w2]
  refine TS.callW k3 (Dws.self (by simp)) ?_
  simp
  refine TS.callW k4 (Dws.self (by simp)) ?_
  simp
  refine GTK.callW (fun _ => ⟨k5, Dws.self (by simp)⟩) ?_
  simp
  refine GTK.callW (fun _ => ⟨k6, Dws.self (by simp)⟩) ?_
  simp
  refine GTK.callW (fun _ => ⟨k7, Dws.self (by simp)⟩) ?_
  simp [hdl, hlq]
  refine GTK.callW (fun _ => ⟨T_live23, .nil⟩) ?_
  simp
theorem S_JtreeEars {xs : List AV} (h : ShA Try.prog [32, 5] xs) : T Try.prog 5 xs (.bool true) := by
  obtain ⟨y, r, rfl, h0, h⟩ := h.cons_of ag_32
  obtain ⟨y, r, rfl, h1, h⟩ := h.cons_of ag_5
  obtain rfl := h.nil_of
  obtain ⟨a, rfl, ha, hb⟩ := lists_in h0
  obtain ⟨v, rfl, hv⟩ := h1.int_of un_5
  have hv2 : 0 ≤ v ∧ v < 256 := by
    simp [Lit.wf, IntKind.min, IntKind.max, IntKind.signed, IntKind.bits] at hv
    omega
  obtain ⟨m, rfl⟩ : ∃ m : Nat, v = m := ⟨v.toNat, by omega⟩
  exact T_JtreeEars a m (by omega) ha hb
end Go.Proofs.Ytahpoodcmeoabaa.PL
