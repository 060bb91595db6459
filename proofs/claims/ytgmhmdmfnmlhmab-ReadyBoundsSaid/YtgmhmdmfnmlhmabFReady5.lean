/- The laws of pipes that may go on. -/
import Derived.Test.YtgmhmdmfnmlhmabFReady4
namespace Go.Proofs.Ytgmhmdmfnmlhmab.PL
open Go.Proofs
set_option linter.unusedVariables false
set_option linter.unusedSimpArgs false
def rowAt (rows : List Int) (t : Nat) : Int := rows.getD t 0
def batL (rows : List Int) (b : Int) (n : Nat) : List Int := (List.range n).map fun t => bat (rowAt rows t) b
def bound33 (rows : List Int) (b : Int) (n : Nat) : Int := addS (batL rows b n)
theorem batL_succ {rows : List Int} {b : Int} {n : Nat} : batL rows b (n + 1) = batL rows b n ++ [bat (rowAt rows n) b] := by unfold batL; rw [List.range_succ, List.map_append]; rfl
theorem addS_concat {l : List Int} {x : Int} : addS (l ++ [x]) = plusS (addS l) x := by unfold addS; rw [List.foldl_append]; rfl
theorem rowAt_i64 {rows : List Int} (h : ∀ x, x ∈ rows → i64 x) (t : Nat) : i64 (rowAt rows t) := by
  unfold rowAt
  by_cases ht : t < rows.length
  · simp [ht]; exact h _ (List.getElem_mem ht)
  · simp [ht]; unfold i64; omega
set_option maxRecDepth 4000 in
theorem T_bound (p : Plan) (rows : List Int) (b : Int) (hp : p.pipes.length ≤ 1000) (hl : rows.length < 4611686018427387904) (hr : ∀ x, x ∈ rows → i64 x) (hb : i64 b) : T Try.prog 51 [p.av, slA (AV.int .i64) rows, .int .i64 b] (.int .i64 (bound33 rows b p.pipes.length)) := by
  obtain ⟨n, hn⟩ : ∃ n, n = p.pipes.length := ⟨_, rfl⟩
  refine T.intro (TS.body mix Try.func51 (by kernel_rfl) rfl (by kernel_rfl) (by simp) ?_)
  simp
  rw [← hn]
  refine vc_loop (fun i : Nat => n - i) (fun i e H => ∃ J : List HO, e 1 = slA (AV.int .i64) rows ∧ e 2 = .int .i64 b ∧ e 12 = .int .i64 n ∧ e 13 = .int .i64 i ∧ i ≤ n ∧ GrowK 1 1 J (e 7) (ints' (batL rows b i)) ∧ H = .box p.cs :: J) 0 ?_ ?_
  · exact ⟨[], by simp [GrowK, batL]⟩
  rintro i e H ⟨J, e1, e2, e12, e13, hi, hg, rfl⟩
  by_cases h : i < n
  · have ew := wrap_next h (by omega)
    have hs := @batL_succ rows b i
    have hll : (batL rows b i).length = i := by simp [batL]
    have hri := rowAt_i64 hr i
    have fb := T_batches (rowAt rows i) b hri hb
    generalize batL rows b i = L at *
    simp [e1, e2, e12, e13, h]
    refine condK_of (fun q => ?_) (fun q => ?_)
    · simp at q
      have hx : rowAt rows i = rows[i] := by unfold rowAt; simp [q]
      rw [hx] at fb hs
      simp [e1, e2, e12, e13, h, q]
      refine TS.call' fb (by simp) ?_
      rcases hg with ⟨ge, hg⟩ | ⟨t, hg, ht⟩
      · rw [avs_eq_nil] at ge
        simp [e1, e2, e12, e13, h, q, hg]
        refine ⟨i + 1, by omega, ew, by omega, ?_⟩
        rw [hs]
        exact GrowK.first (f := AV.int .i64) ge (by simp)
      · have ht' : J[t]? = some (.spare L.length 1) := by simpa using ht
        simp [e1, e2, e12, e13, h, q, hg, ht']
        refine ⟨by omega, i + 1, by omega, ew, by omega, ?_⟩
        rw [hs]
        exact GrowK.more (f := AV.int .i64) ht rfl
    · simp at q
      have hx : rowAt rows i = 0 := by unfold rowAt; simp [q]
      rw [hx] at fb hs
      simp [e1, e2, e12, e13, h, q]
      refine TS.call' fb (by simp) ?_
      rcases hg with ⟨ge, hg⟩ | ⟨t, hg, ht⟩
      · rw [avs_eq_nil] at ge
        simp [e1, e2, e12, e13, h, q, hg]
        refine ⟨i + 1, by omega, ew, by omega, ?_⟩
        rw [hs]
        exact GrowK.first (f := AV.int .i64) ge (by simp)
      · have ht' : J[t]? = some (.spare L.length 1) := by simpa using ht
        simp [e1, e2, e12, e13, h, q, hg, ht']
        refine ⟨by omega, i + 1, by omega, ew, by omega, ?_⟩
        rw [hs]
        exact GrowK.more (f := AV.int .i64) ht rfl
  · have : i = n := by omega
    subst this
    obtain ⟨own, hg⟩ := hg.own
    have hll : (batL rows b i).length = i := by simp [batL]
    simp [e1, e2, e12, e13, hg]
    refine TS.callF (T_add (batL rows b i) (by omega)) (.cons Frz.slN .nil) rfl ?_
    simp [bound33]
set_option maxRecDepth 4000 in
theorem T_rbound33 (p : Plan) (rows : List Int) (b : Int) (hp : p.pipes.length ≤ 1000) (hl : rows.length < 4611686018427387904) (hr : ∀ x, x ∈ rows → i64 x) (hb : i64 b) : T Try.prog 54 [p.av, slA (AV.int .i64) rows, .int .i64 b] (.int .i64 (bound33 rows b p.pipes.length)) := by
  obtain ⟨n, hn⟩ : ∃ n, n = p.pipes.length := ⟨_, rfl⟩
  refine T.intro (TS.body mix Try.func54 (by kernel_rfl) rfl (by kernel_rfl) (by simp) ?_)
  simp
  refine vc_loop (fun i : Nat => n - i) (fun i e H => e 1 = slA (AV.int .i64) rows ∧ e 2 = .int .i64 b ∧ e 3 = .ptr 0 0 ∧ e 7 = .int .i64 (bound33 rows b i) ∧ e 8 = .int .i64 i ∧ i ≤ n ∧ H = [.box p.cs]) 0 ?_ ?_
  · simp [bound33, batL, addS]
  rintro i e H ⟨e1, e2, e3, e7, e8, hi, rfl⟩
  by_cases h : i < n
  · have ew := wrap_next h (by omega)
    have hri := rowAt_i64 hr i
    have fb := T_rbatches33 (rowAt rows i) b hri hb
    have fp := T_rplus26 (bound33 rows b i) (bat (rowAt rows i) b) (addS_range _)
    have hs : bound33 rows b (i + 1) = plusS (bound33 rows b i) (bat (rowAt rows i) b) := by unfold bound33; rw [batL_succ, addS_concat]
    have hip : i < p.pipes.length := by omega
    simp [e1, e2, e3, e7, e8, hip]
    refine condK_of (fun q => ?_) (fun q => ?_)
    · simp at q
      have hx : rowAt rows i = rows[i] := by unfold rowAt; simp [q]
      rw [hx] at fb fp hs
      simp [e1, e2, e3, e7, e8, hip, q]
      refine TS.call' fb (by simp) ?_
      simp [e1, e2, e3, e7, e8, hip, q]
      refine TS.call' fp (by simp) ?_
      simp [e1, e2, e3, e7, e8, hip, q]
      exact ⟨i + 1, by omega, by rw [hs], ew, by omega⟩
    · simp at q
      have hx : rowAt rows i = 0 := by unfold rowAt; simp [q]
      rw [hx] at fb fp hs
      simp [e1, e2, e3, e7, e8, hip, q]
      refine TS.call' fb (by simp) ?_
      simp [e1, e2, e3, e7, e8, hip, q]
      refine TS.call' fp (by simp) ?_
      simp [e1, e2, e3, e7, e8, hip, q]
      exact ⟨i + 1, by omega, by rw [hs], ew, by omega⟩
  · have : i = n := by omega
    subst this
    simp [e1, e2, e3, e7, e8, ← hn]
def much33 (ns : List (List Int)) : Bool := (ns.take 30).any (fun l => decide (30 < l.length)) || decide (20 < ns.length)
theorem much33_no {ns : List (List Int)} (h : much33 ns = false) : ns.length ≤ 20 ∧ ∀ l, l ∈ ns → l.length ≤ 30 := by
  unfold much33 at h
  simp at h
  refine ⟨h.2, fun l hl => ?_⟩
  exact h.1 l (by rw [List.take_of_length_le (by omega)]; exact hl)
set_option maxRecDepth 4000 in
theorem T_much33 (p : Plan) (hp : PlanIn p) : T Try.prog 39 [p.av] (.bool (much33 p.ns)) := by
  have hp1 := hp.1
  refine T.intro (TS.body mix Try.func39 (by kernel_rfl) rfl (by kernel_rfl) (by simp) ?_)
  simp
  refine vc_loop (fun i : Nat => 30 - i) (fun i e H => e 1 = .ptr 0 0 ∧ e 3 = .int .i64 i ∧ i ≤ 30 ∧ i ≤ p.pipes.length ∧ (∀ j (h : j < p.pipes.length), j < i → p.pipes[j].needs.length ≤ 30) ∧ H = [.box p.cs]) 0 ?_ ?_
  · simp
  rintro i e H ⟨e1, e3, hi, hi2, hall, rfl⟩
  by_cases h : i < p.pipes.length ∧ i < 30
  · have h30 : ((i : Int) < 30) = True := eq_true (by omega)
    have ew := wrap_next h.1 (by omega)
    have hnl := hp.2 _ (List.getElem_mem h.1)
    simp [e1, e3, h.1, h30]
    refine condK_of (fun q => ?_) (fun q => ?_)
    · simp at q
      simp
      unfold much33
      simp
      refine .inl ⟨p.pipes[i].needs, ?_, by omega⟩
      rw [List.mem_take_iff_getElem]
      exact ⟨i, by rw [p.ns_len]; omega, by simp [Plan.ns]⟩
    · simp at q
      simp [e1, e3, h.1, h30]
      refine ⟨i + 1, by omega, ew, by omega, by omega, fun j hj hji => ?_⟩
      rcases Nat.lt_or_ge j i with h2 | h2
      · exact hall j hj h2
      · have : j = i := by omega
        subst this; omega
  · have hc : (decide (i < p.pipes.length) && decide ((i : Int) < 30)) = false := by simp; omega
    have hm : much33 p.ns = decide (20 < p.pipes.length) := by
      unfold much33
      rw [p.ns_len]
      have : ((p.ns.take 30).any fun l => decide (30 < l.length)) = false := by
        rw [List.any_eq_false]
        intro l hl
        rw [List.mem_take_iff_getElem] at hl
        obtain ⟨j, hj, rfl⟩ := hl
        rw [p.ns_len] at hj
        have := hall j (by omega) (by omega)
        simp [Plan.ns]
        exact this
      rw [this]; simp
    rw [hm]
    simp [e1, e3, hc]
    omega
def plan0 : Plan := ⟨⟨[], rfl⟩, ⟨[], rfl⟩, [⟨⟨[], rfl⟩, ⟨[], rfl⟩, [1, 2]⟩, ⟨⟨[], rfl⟩, ⟨[], rfl⟩, [2]⟩, ⟨⟨[], rfl⟩, ⟨[], rfl⟩, []⟩], ⟨[], rfl⟩, ⟨[], rfl⟩, ⟨[], rfl⟩⟩
theorem plan0_in : PlanIn plan0 := ⟨by decide, by intro x hx; simp [plan0] at hx; rcases hx with rfl | rfl | rfl <;> decide⟩
theorem plan0_dw : Dw (.agg [.sl .exact [], .sl .exact [], .sl .exact [.agg [.sl .exact [], .sl .exact [], .sl .exact [.int .i64 1, .int .i64 2]], .agg [.sl .exact [], .sl .exact [], .sl .exact [.int .i64 2]], .agg [.sl .exact [], .sl .exact [], .sl .exact []]], .sl .exact [], .sl .exact [], .sl .exact []]) plan0.av := by
  show Dw _ (.agg [.sl .no [], .sl .no [], .sl .no [.agg [.sl .no [], .sl .no [], .sl .no [.int .i64 1, .int .i64 2]], .agg [.sl .no [], .sl .no [], .sl .no [.int .i64 2]], .agg [.sl .no [], .sl .no [], .sl .no []]], .sl .no [], .sl .no [], .sl .no []])
  repeat (first | exact .self rfl | constructor)
set_option maxRecDepth 4000 in
theorem T_live33 : T Try.prog 40 [] (.bool true) := by
  have b0 : bat 0 5 = 1 := by decide
  have b1 : bat 11 5 = 3 := by decide
  refine T.intro (TS.body mix Try.func40 (by kernel_rfl) rfl (by kernel_rfl) (by simp) ?_)
  simp
  refine TS.call' (T_batches 0 5 (by unfold i64; omega) (by unfold i64; omega)) (by simp) ?_
  simp [b0]
  refine GTK.call (fun _ => ⟨T_batches 11 5 (by unfold i64; omega) (by unfold i64; omega), by simp⟩) ?_
  simp [b1]
  refine GTK.callW (fun _ => ⟨T_acyclic plan0 plan0_in (by decide), .cons plan0_dw .nil⟩) ?_
  rw [show decide ((order33 plan0.ns).length = plan0.pipes.length) = true by decide]
  simp
  refine GTK.callW (fun _ => ⟨T_level plan0 0 plan0_in (by decide), .cons plan0_dw (.cons (.self rfl) .nil)⟩) ?_
  rw [show level33 plan0.ns 0 = 3 by decide]
  simp
theorem T_ReadyTells (p : Plan) (d : List Bool) (t : Int) (hp : PlanIn p) (hl : d.length < 4611686018427387904) : T Try.prog 8 [p.av, .sl .no (bools' d), .int .i64 t] (.bool true) := by
  refine T.intro (TS.body mix Try.func8 (by kernel_rfl) rfl (by kernel_rfl) (by simp) ?_)
  simp
  refine TS.call' (T_much33 p hp) (by simp) ?_
  simp
  refine condK_of (fun h => ?_) (fun h => ?_)
  · simp
    (first | refine TS.call' (T_live33) (by simp) ?_ | refine TDK.call' (T_live33) (by simp) ?_ | refine GTK.call (fun _ => ⟨T_live33, by simp⟩) ?_ | refine TS.call (T_live33) (by simp) ?_ | refine TDK.call (T_live33) (by simp) ?_); simp
  simp at h
  have hm := much33_no h.1
  rw [p.ns_len] at hm
  have hs : p.pipes.length ≤ 1000 := by omega
  have hsm := fun (l : List Nat) (hl : l.length < 4611686018427387904) => T_sameList21 (l.map fun k : Nat => (k : Int)) (l.map fun k : Nat => (k : Int)) (by simpa using hl)
  have hrl := readyL_len (ns := p.ns) (q := isD d) (k := p.pipes.length)
  have hol : (order33 p.ns).length ≤ p.pipes.length := by have := ordN_len (ns := p.ns) (k := p.ns.length) (D := []); simp [p.ns_len] at this; unfold order33; rw [p.ns_len]; exact this
  have hav : ∀ l : List Nat, avs (AV.int .i64) (l.map fun k : Nat => (k : Int)) = nats' l := fun l => by simp [avs]
  simp only [slA, hav] at hsm
  simp
  refine TS.call' (T_rorder33 p hp hs) (by simp) ?_
  simp
  refine TDK.call' (T_ready p d t hl hp) (by simp) ?_
  simp
  refine TDK.call' (T_rready33 p d t hl hp.1 hp.2) (by simp) ?_
  simp
  refine GTK.call (fun _ => ⟨T_rdall p d hl hp hs, by simp⟩) ?_
  simp
  refine GTK.call (fun _ => ⟨T_rall33 p d hl hp hs, by simp⟩) ?_
  simp
  refine GTK.call (fun _ => ⟨hsm (readyL p.ns (isD d) p.pipes.length) (by omega), by simp⟩) ?_
  simp
  refine GTK.call (fun _ => ⟨T_order33 p hp hs, by simp⟩) ?_
  simp
  refine GTK.call (fun _ => ⟨hsm (order33 p.ns) (by omega), by simp⟩) ?_
  simp
  refine GTK.call (fun _ => ⟨T_acyclic p hp hs, by simp⟩) ?_
  simp
  have he : (decide ((order33 p.ns).length = p.pipes.length) == decide (((order33 p.ns).length : Int) = (p.pipes.length : Int))) = true := by
    rw [beq_iff_eq, Bool.eq_iff_iff]; simp; omega
  rw [he]
  refine GTK.call (fun _ => ⟨T_level p t hp hs, by simp⟩) ?_
  simp
  refine GTK.call (fun _ => ⟨T_rlevel33 p t hp hs, by simp⟩) ?_
  simp [he]
  refine GTK.call (fun _ => ⟨T_live33, by simp⟩) ?_
  simp [he]
/-! no more batches than pipes, and all rows divided by a batch -/
theorem plusS_le {a b x : Int} (h : a ≤ x) (hb : 0 ≤ b) : plusS a b ≤ x + b := by unfold plusS cutS; omega
def sumI (l : List Int) : Int := l.sum
theorem bat_le {r b : Int} (hr : 0 ≤ r) (hb : 1 ≤ b) : 0 ≤ bat r b ∧ bat r b ≤ r / b + 1 := by
  have h1 : 0 ≤ r / b := Int.ediv_nonneg hr (by omega)
  have e : max b 1 = b := by omega
  unfold bat
  split
  · omega
  · rw [e]
    have h2 : 0 ≤ (r - 1) / b := Int.ediv_nonneg (by omega) (by omega)
    have h3 : (r - 1) / b ≤ r / b := Int.ediv_le_ediv (by omega) (by omega)
    omega
theorem div_add_le {a c b : Int} (hb : 1 ≤ b) : a / b + c / b ≤ (a + c) / b := by
  rw [Int.le_ediv_iff_mul_le (by omega), Int.add_mul]
  have h1 := Int.ediv_mul_le a (show b ≠ 0 by omega)
  have h2 := Int.ediv_mul_le c (show b ≠ 0 by omega)
  omega
theorem sum_pos : ∀ {l : List Int}, (∀ x, x ∈ l → 0 ≤ x) → 0 ≤ l.sum
  | [], _ => by simp
  | x :: l, h => by
    have h1 := h x (List.mem_cons_self ..)
    have h2 := sum_pos (l := l) fun y hy => h y (List.mem_cons_of_mem _ hy)
    rw [List.sum_cons]; omega
theorem bound_le {rows : List Int} {b : Int} (hr : ∀ x, x ∈ rows → 0 ≤ x) (hb : 1 ≤ b) : ∀ n, bound33 rows b n ≤ n + (rows.take n).sum / b := by
  intro n
  induction n with
  | zero => simp [bound33, batL, addS]
  | succ n ih =>
    unfold bound33 at *
    rw [batL_succ, addS_concat]
    by_cases h : n < rows.length
    · have hx : rowAt rows n = rows[n] := by unfold rowAt; simp [h]
      have h0 := hr _ (List.getElem_mem h)
      have h1 := bat_le h0 hb
      have h2 := plusS_le ih h1.1
      have h3 : (rows.take (n + 1)).sum = (rows.take n).sum + rows[n] := by rw [take_next h, List.sum_append]; simp
      have h4 := div_add_le (a := (rows.take n).sum) (c := rows[n]) hb
      rw [h3, hx]
      generalize rows[n] / b = A at *
      generalize (rows.take n).sum / b = B at *
      generalize ((rows.take n).sum + rows[n]) / b = C at *
      omega
    · have hx : rowAt rows n = 0 := by unfold rowAt; simp [h]
      have h1 := bat_le (Int.le_refl 0) hb
      have h2 := plusS_le ih h1.1
      have h3 : rows.take (n + 1) = rows.take n := by rw [List.take_of_length_le (by omega), List.take_of_length_le (by omega)]
      have h4 : bat 0 b = 1 := by unfold bat; simp
      rw [h4] at h2
      rw [h3, hx, h4]
      omega
set_option maxHeartbeats 1000000 in
theorem T_ReadyBounds (p : Plan) (rows : List Int) (b n : Int) (hp : PlanIn p) (hl : rows.length < 4611686018427387904) (hr : ∀ x, x ∈ rows → i64 x) (hb : i64 b) (hn : i64 n) : T Try.prog 9 [p.av, slA (AV.int .i64) rows, .int .i64 b, .int .i64 n] (.bool true) := by
  refine T.intro (TS.body mix Try.func9 (by kernel_rfl) rfl (by kernel_rfl) (by simp) ?_)
  simp
  refine TS.call' (T_much33 p hp) (by simp) ?_
  simp
  refine condK_of (fun h => ?_) (fun h => ?_)
  · simp
    (first | refine TS.call' (T_live33) (by simp) ?_ | refine TDK.call' (T_live33) (by simp) ?_ | refine GTK.call (fun _ => ⟨T_live33, by simp⟩) ?_ | refine TS.call (T_live33) (by simp) ?_ | refine TDK.call (T_live33) (by simp) ?_); simp
  simp at h
  have hm := much33_no h.1
  rw [p.ns_len] at hm
  have hs : p.pipes.length ≤ 1000 := by omega
  simp
  refine TS.call' (T_bound p rows b hs hl hr hb) (by simp) ?_
  simp
  refine TS.call' (T_batches n b hn hb) (by simp) ?_
  simp
  refine TS.call' (T_rbatches33 n b hn hb) (by simp) ?_
  simp
  refine GTK.call (fun _ => ⟨T_rbound33 p rows b hs hl hr hb, by simp⟩) ?_
  simp
  refine vc_loop (fun i : Nat => rows.length - i) (fun i e H => e 1 = slA (AV.int .i64) rows ∧ e 2 = .int .i64 b ∧ e 4 = .ptr 0 0 ∧ e 9 = .int .i64 (bound33 rows b p.pipes.length) ∧ e 10 = .int .i64 (rows.take i).sum ∧ e 11 = .int .i64 i ∧ i ≤ rows.length ∧ (∀ x, x ∈ rows.take i → 0 ≤ x) ∧ (0 ≤ (rows.take i).sum ∧ (rows.take i).sum ≤ 1099511627776 * i) ∧ H = [.box p.cs]) 0 ?_ ?_
  · simp
  rintro i e H ⟨e1, e2, e4, e9, e10, e11, hi, hpos, hsum, rfl⟩
  by_cases hlt : i < rows.length
  · have ew := wrap_next hlt (by omega)
    have h3 : (rows.take (i + 1)).sum = (rows.take i).sum + rows[i] := by rw [take_next hlt, List.sum_append]; simp
    simp [e1, e2, e4, e9, e10, e11, hlt]
    refine condK_of (fun q => ?_) (fun q => ?_)
    · simp
      (first | refine TS.call' (T_live33) (by simp) ?_ | refine TDK.call' (T_live33) (by simp) ?_ | refine GTK.call (fun _ => ⟨T_live33, by simp⟩) ?_ | refine TS.call (T_live33) (by simp) ?_ | refine TDK.call (T_live33) (by simp) ?_); simp
    · simp at q
      have w : IntKind.i64.wrap ((rows.take i).sum + rows[i]) = (rows.take (i + 1)).sum := by rw [h3]; exact wrap_i64 (by omega) (by omega)
      simp [e1, e2, e4, e9, e10, e11, hlt, w]
      refine ⟨i + 1, by omega, rfl, ew, by omega, ?_, by omega, by omega⟩
      intro x hx
      rw [take_next hlt, List.mem_append] at hx
      rcases hx with hx | hx
      · exact hpos x hx
      · simp at hx; subst hx; exact q.1
  · have : i = rows.length := by omega
    subst this
    rw [List.take_length] at *
    have hb' := hb
    unfold i64 at hb'
    by_cases hb1 : b < 1
    · simp [e1, e2, e4, e9, e10, e11, hb1, -ifAV]
      refine GTK.call (fun _ => ⟨T_live33, by simp⟩) ?_
      simp
    · have hle := bound_le hpos (show 1 ≤ b by omega) p.pipes.length
      have hq : rows.sum.tdiv b = rows.sum / b := Int.tdiv_eq_ediv_of_nonneg hsum.1
      have hq1 := div_le hsum.1 (show 1 ≤ b by omega)
      have w1 : IntKind.i64.wrap (rows.sum / b) = rows.sum / b := wrap_i64 (by omega) (by omega)
      have w2 : IntKind.i64.wrap ((p.pipes.length : Int) + rows.sum / b) = (p.pipes.length : Int) + rows.sum / b := wrap_i64 (by omega) (by omega)
      have hts : (rows.take p.pipes.length).sum ≤ rows.sum := by
        have : rows.sum = (rows.take p.pipes.length).sum + (rows.drop p.pipes.length).sum := by rw [← List.sum_append, List.take_append_drop]
        have : 0 ≤ (rows.drop p.pipes.length).sum := sum_pos fun x hx => hpos x (List.mem_of_mem_drop hx)
        omega
      have hdv : (rows.take p.pipes.length).sum / b ≤ rows.sum / b := Int.ediv_le_ediv (by omega) hts
      have hfin : decide (bound33 rows b p.pipes.length ≤ (p.pipes.length : Int) + rows.sum / b) = true := by simp; omega
      have hb2 : ¬ b = 0 := by omega
      simp [e1, e2, e4, e9, e10, e11, hb1, hq, w1, w2, hb2]
      rw [hfin]
      refine GTK.call (fun _ => ⟨T_live33, by simp⟩) ?_
      simp
theorem Pipe_in {cs : List AV} (h : Sh Try.prog 122 cs) : ∃ p : Pipe, mkAV true cs = p.av ∧ p.needs.length < 4611686018427387904 := by
  obtain ⟨hl, hf⟩ := h.struct_of ft_122
  obtain ⟨x, y, z, rfl⟩ : ∃ x y z, cs = [x, y, z] := by
    match cs, hl with
    | [x, y, z], _ => exact ⟨x, y, z, rfl⟩
  obtain ⟨s, h1⟩ := psl_in (hf (63, 0, 1) (by simp)) un_63 ag_78 (by decide)
  obtain ⟨f, h2⟩ := psl_in (hf (26, 1, 1) (by simp)) un_26 ag_3 (by decide)
  obtain ⟨n, h3, _, h4⟩ := ints_in (hf (26, 2, 1) (by simp))
  simp at h1 h2 h3
  subst h1; subst h2; subst h3
  exact ⟨⟨s, f, n⟩, rfl, h4⟩
theorem Plan_in {cs : List AV} (h : Sh Try.prog 66 cs) : ∃ p : Plan, mkAV true cs = p.av ∧ PlanIn p := by
  obtain ⟨hl, hf⟩ := h.struct_of ft_66
  obtain ⟨x1, x2, x3, x4, x5, x6, rfl⟩ : ∃ x1 x2 x3 x4 x5 x6, cs = [x1, x2, x3, x4, x5, x6] := by
    match cs, hl with
    | [x1, x2, x3, x4, x5, x6], _ => exact ⟨x1, x2, x3, x4, x5, x6, rfl⟩
  obtain ⟨o, h1⟩ := psl_in (hf (26, 0, 1) (by simp)) un_26 ag_3 (by decide)
  obtain ⟨f, h2⟩ := psl_in (hf (61, 1, 1) (by simp)) un_61 ag_180 (by decide)
  have h3 := hf (62, 2, 1) (by simp)
  obtain ⟨a, h4⟩ := psl_in (hf (63, 3, 1) (by simp)) un_63 ag_78 (by decide)
  obtain ⟨b, h5⟩ := psl_in (hf (64, 4, 1) (by simp)) un_64 ag_183 (by decide)
  obtain ⟨c, h6⟩ := psl_in (hf (63, 5, 1) (by simp)) un_63 ag_78 (by decide)
  obtain ⟨ys, e3, hy, hb⟩ := h3.sl_of un_62 ag_122
  obtain ⟨l, e, el, hlp⟩ := list_in (f := Pipe.av) (g := mkAV true) (Q := fun p => p.needs.length < 4611686018427387904) (fun y hy' => Pipe_in (hy y hy'))
  have hb1 : 1 ≤ Try.prog.bytesOf 122 := by decide +kernel
  have hr := reach_lt'
  have := Nat.mul_le_mul_left ys.length hb1
  simp at h1 h2 e3 h4 h5 h6
  subst h1; subst h2; subst e3; subst h4; subst h5; subst h6
  rw [e]
  exact ⟨⟨o, f, l, a, b, c⟩, rfl, by show l.length < _; omega, hlp⟩
theorem S_ReadyTells {xs : List AV} (h : ShA Try.prog [66, 67, 3] xs) : T Try.prog 8 xs (.bool true) := by
  obtain ⟨y, r, rfl, h0, h⟩ := h.cons_of ag_66
  obtain ⟨y, r, rfl, h1, h⟩ := h.cons_of ag_67
  obtain ⟨y, r, rfl, h2, h⟩ := h.cons_of ag_3
  obtain rfl := h.nil_of
  obtain ⟨p, e, hp⟩ := Plan_in h0
  obtain ⟨d, rfl, hd⟩ := bools_in h1
  obtain ⟨t, rfl, _⟩ := h2.int_of un_3
  rw [e]
  exact T_ReadyTells p d t hp hd
theorem S_ReadyBounds {xs : List AV} (h : ShA Try.prog [66, 26, 3, 3] xs) : T Try.prog 9 xs (.bool true) := by
  obtain ⟨y, r, rfl, h0, h⟩ := h.cons_of ag_66
  obtain ⟨y, r, rfl, h1, h⟩ := h.cons_of ag_26
  obtain ⟨y, r, rfl, h2, h⟩ := h.cons_of ag_3
  obtain ⟨y, r, rfl, h3, h⟩ := h.cons_of ag_3
  obtain rfl := h.nil_of
  obtain ⟨p, e, hp⟩ := Plan_in h0
  obtain ⟨d, rfl, hr, hd⟩ := ints_in h1
  obtain ⟨b, rfl, hb⟩ := h2.int_of un_3
  obtain ⟨n, rfl, hn⟩ := h3.int_of un_3
  rw [e]
  exact T_ReadyBounds p d b n hp hd hr (i64_wf hb) (i64_wf hn)
end Go.Proofs.Ytgmhmdmfnmlhmab.PL
