/- What merged aggregates tell. -/
import Derived.Test.YtgmhmdmfnmlhmabFAgg
namespace Go.Proofs.Ytgmhmdmfnmlhmab.PL
open Go.Proofs
set_option linter.unusedVariables false
set_option linter.unusedSimpArgs false
theorem feedL_prev {l : List Val} {i : Nat} (h : i < l.length) {a : Acc} : feedL a (l.drop i).reverse = feedA (feedL a (l.drop (i + 1)).reverse) l[i] := by
  rw [List.drop_eq_getElem_cons h, List.reverse_cons]; unfold feedL; rw [List.foldl_append]; rfl
theorem res_eq {a b : Acc} {op : Int} {L M : List Val} (ha : Fed a op L) (hb : Fed b op M) (hm : ∀ v, v ∈ L ↔ v ∈ M) (hl : L.length = M.length) (hc : cntN L = cntN M) (hs : isum L = isum M) : resA a = resA b := by
  have e1 : a.op = b.op := by rw [ha.op, hb.op]
  have e2 : a.n = b.n := by rw [ha.n, hb.n, hl]
  have e3 : a.m = b.m := by rw [ha.m, hb.m, hc]
  have e4 : a.x = b.x := by rw [ha.x, hb.x, hs]
  have e5 : a.lo = b.lo := Low.unique hm ha.lo hb.lo
  have e6 : a.hi = b.hi := High.unique hm ha.hi hb.hi
  have e7 : a.bad = b.bad := by
    rw [ha.bad, hb.bad, Bool.eq_iff_iff, List.any_eq_true, List.any_eq_true]
    exact ⟨fun ⟨v, hv, h⟩ => ⟨v, (hm v).1 hv, h⟩, fun ⟨v, hv, h⟩ => ⟨v, (hm v).2 hv, h⟩⟩
  unfold resA totA
  rw [e1, e2, e3, e4, e5, e6, e7]
theorem isum_app (l m : List Val) : isum (l ++ m) = isum l + isum m := by simp [isum, List.sum_append]
theorem isum_rev (l : List Val) : isum l.reverse = isum l := by simp [isum]
theorem cntN_app (l m : List Val) : cntN (l ++ m) = cntN l + cntN m := by simp [cntN]
theorem cntN_rev (l : List Val) : cntN l.reverse = cntN l := by simp [cntN]
theorem T_AggMerges (op : Int) (a b : List Val) (op2 : Int) (ha : a.length < 4611686018427387904) (hb : b.length < 4611686018427387904) (va : ∀ v, v ∈ a → valIn v) (vb : ∀ v, v ∈ b → valIn v) : T Try.prog 14 [.int .i64 op, rowA a, rowA b, .int .i64 op2] (.bool true) := by
  refine T.intro (TS.bodyM [100019, 1191100] mix Try.func14 (by kernel_rfl) rfl (by kernel_rfl) (by simp) ?_)
  simp
  have hr := reach_lt
  have hM := T_much [a, b] (by show 2 < _; omega) (fun r hr v hv => by
    simp at hr
    rcases hr with rfl | rfl
    · exact (va v hv).2.2
    · exact (vb v hv).2.2)
  refine TS.call hM (by simp) ?_
  simp
  refine condK_of (fun h => ?_) (fun h => ?_)
  · simp
    (first | refine TS.call' (T_live14) (by simp) ?_ | refine TDK.call' (T_live14) (by simp) ?_ | refine GTK.call (fun _ => ⟨T_live14, by simp⟩) ?_ | refine TS.call (T_live14) (by simp) ?_ | refine TDK.call (T_live14) (by simp) ?_); simp
  have hm := much_no h
  have la := (hm.2 a (by simp)).1
  have lb := (hm.2 b (by simp)).1
  have ia : ∀ v, v ∈ a → isI v.i := fun v hv => (va v hv).2.1
  have ib : ∀ v, v ∈ b → isI v.i := fun v hv => (vb v hv).2.1
  have iab : ∀ v, v ∈ a ++ b → isI v.i := fun v hv => (List.mem_append.1 hv).elim (ia v) (ib v)
  have hs : ∀ w, w ∈ a ++ b → w.s.size < 4611686018427387904 := fun w hw => by
    rcases List.mem_append.1 hw with h | h
    · have := (va w h).2.2; omega
    · have := (vb w h).2.2; omega
  have sa : ∀ w, w ∈ a → w.s.size < 4611686018427387904 := fun w hw => hs w (List.mem_append_left _ hw)
  have lab : (a ++ b).length ≤ 1000 := by simp; omega
  simp
  (first | refine TS.call' (T_start op) (by simp) ?_ | refine TDK.call' (T_start op) (by simp) ?_ | refine GTK.call (fun _ => ⟨T_start op, by simp⟩) ?_ | refine TS.call (T_start op) (by simp) ?_ | refine TDK.call (T_start op) (by simp) ?_); simp
  (first | refine TS.call' (T_start op) (by simp) ?_ | refine TDK.call' (T_start op) (by simp) ?_ | refine GTK.call (fun _ => ⟨T_start op, by simp⟩) ?_ | refine TS.call (T_start op) (by simp) ?_ | refine TDK.call (T_start op) (by simp) ?_); simp
  refine vc_loop (fun i : Nat => a.length - i) (fun i e H => e 0 = .int .i64 op ∧ e 1 = rowA a ∧ e 2 = rowA b ∧ e 3 = .int .i64 op2 ∧ e 9 = .ptr 0 0 ∧ e 10 = .ptr 1 0 ∧ e 11 = .int .i64 i ∧ i ≤ a.length ∧ H = [.box (feedL (startA op) (a.take i)).cs, .box (startA op).cs]) 0 ?_ ?_
  · simp [feedL]
  rintro i e H ⟨h0, h1, h2, h3, h9, h10, h11, hle, rfl⟩
  by_cases hlt : i < a.length
  · have en := feedL_next (a := startA op) hlt
    simp [h0, h1, h2, h3, h9, h10, h11, hlt]
    refine TDK.call' (T_feed (feedL (startA op) (a.take i)) a[i] (ia _ (List.getElem_mem hlt))) (by simp) ?_
    simp [h0, h1, h2, h3, h9, h10, h11, hlt]
    exact ⟨i + 1, by omega, wrap_next hlt (by omega), by omega, by rw [en]; simp⟩
  have : i = a.length := by omega
  subst this
  rw [List.take_length] at *
  have fA := Fed.of op a (by omega)
  generalize feedL (startA op) a = A at *
  simp [h0, h1, h2, h3, h9, h10, h11]
  refine vc_loop (fun j : Nat => j) (fun j e H => e 0 = .int .i64 op ∧ e 1 = rowA a ∧ e 2 = rowA b ∧ e 3 = .int .i64 op2 ∧ e 9 = .ptr 0 0 ∧ e 10 = .ptr 1 0 ∧ e 12 = .int .i64 ((j : Int) - 1) ∧ j ≤ b.length ∧ H = [.box A.cs, .box (feedL (startA op) (b.drop j).reverse).cs]) b.length ?_ ?_
  · have : IntKind.i64.wrap ((b.length : Int) - 1) = (b.length : Int) - 1 := wrap_i64 (by omega) (by omega)
    simp [h0, h1, h2, h3, h9, h10, this, feedL]
  clear h0 h1 h2 h3 h9 h10 h11 hle hlt e
  rintro j e H ⟨h0, h1, h2, h3, h9, h10, h12, hle, rfl⟩
  rcases j with _ | k
  · have h12 : e 12 = .int .i64 (-1) := h12
    rw [List.drop_zero]
    have fB := Fed.of op b.reverse (by simp; omega)
    generalize feedL (startA op) b.reverse = B at *
    have fR := Fed.of op (a ++ b) lab
    have bR := fed_bound op (a ++ b) lab iab
    have tR := T_rof14 op (a ++ b) lab iab hs
    have fA' := Fed.of op a (by omega)
    have tA := T_rof14 op a (by omega) ia sa
    have m1 := fA.merge fB (by simp; omega)
    have m2 := fB.merge fA (by simp; omega)
    have r0 : resA A = resA (feedL (startA op) a) := res_eq fA fA' (fun v => Iff.rfl) rfl rfl rfl
    have r1 : resA (mergeA A B) = resA (feedL (startA op) (a ++ b)) := res_eq m1 fR (fun v => by simp) (by simp) (by rw [cntN_app, cntN_app, cntN_rev]) (by rw [isum_app, isum_app, isum_rev])
    have r2 : resA (mergeA B A) = resA (feedL (startA op) (a ++ b)) := res_eq m2 fR (fun v => by simp [or_comm]) (by simp; omega) (by rw [cntN_app, cntN_app, cntN_rev]; omega) (by rw [isum_app, isum_app, isum_rev]; omega)
    have x1 : (mergeA A B).x = (feedL (startA op) (a ++ b)).x := by rw [m1.x, fR.x, isum_app, isum_app, isum_rev]
    have x2 : (mergeA B A).x = (feedL (startA op) (a ++ b)).x := by rw [m2.x, fR.x, isum_app, isum_app, isum_rev]; omega
    have t1 := T_result (mergeA A B) (by rw [x1]; exact bR.1) (by rw [x1]; exact bR.2)
    have t2 := T_result (mergeA B A) (by rw [x2]; exact bR.1) (by rw [x2]; exact bR.2)
    have bA := isum_bound a ia
    have t3 := T_result A (by rw [fA.x]; omega) (by rw [fA.x]; omega)
    rw [r1] at t1
    rw [r2] at t2
    rw [← r0] at tA
    generalize resA (feedL (startA op) (a ++ b)) = R at *
    simp [h0, h1, h2, h3, h9, h10, h12]
    repeat (refine ⟨by omega, ?_⟩)
    refine TS.call tR (by simp) ?_
    simp [h0, h1, h3, h9, h10]
    refine TS.call' (T_merge A B) (by simp) ?_
    simp [h0, h1, h3, h9, h10]
    refine TS.call' t1 (by simp) ?_
    simp [h0, h1, h3, h9, h10]
    refine TS.call' (T_merge B A) (by simp) ?_
    simp [h0, h1, h3, h9, h10]
    refine TS.call' t2 (by simp) ?_
    simp [h0, h1, h3, h9, h10]
    refine GTK.call (fun _ => ⟨T_code14 R.2, by simp⟩) ?_
    simp [h0, h1, h3, h9, h10]
    refine GTK.call (fun _ => ⟨T_code14 R.2, by simp⟩) ?_
    simp [h0, h1, h3, h9, h10]
    refine condK_of (fun q => ?_) (fun q => ?_)
    · simp
      (first | refine TS.call' (T_live14) (by simp) ?_ | refine TDK.call' (T_live14) (by simp) ?_ | refine GTK.call (fun _ => ⟨T_live14, by simp⟩) ?_ | refine TS.call (T_live14) (by simp) ?_ | refine TDK.call (T_live14) (by simp) ?_); simp
    simp at q
    have hne : A.op ≠ (feedA (startA op2) ⟨1, 3, ByteArray.empty⟩).op := by
      rw [fA.op]
      show op ≠ op2
      exact fun e => q e.symm
    have em : mergeA A (feedA (startA op2) ⟨1, 3, ByteArray.empty⟩) = A := by
      unfold mergeA; rw [if_pos hne]
    simp [h0, h1, h3, h9]
    refine TDK.call' (T_start op2) (by simp) ?_
    simp [h0, h1, h3, h9]
    refine TDK.call' (T_feed (startA op2) ⟨1, 3, ByteArray.empty⟩ (by unfold isI; decide)) (by simp) ?_
    simp [h0, h1, h3, h9]
    refine TDK.call' (T_merge A (feedA (startA op2) ⟨1, 3, ByteArray.empty⟩)) (by simp) ?_
    rw [em]
    simp [h0, h1, h3, h9]
    refine TDK.call' t3 (by simp) ?_
    simp [h0, h1, h3, h9]
    refine TS.call tA (by simp) ?_
    simp
    refine GTK.call (fun _ => ⟨T_code14 (resA A).2, by simp⟩) ?_
    simp
    refine GTK.call (fun _ => ⟨T_live14, by simp⟩) ?_
    simp
  · have h12 : e 12 = .int .i64 (k : Int) := by rw [h12]; congr 1; omega
    have hlt : k < b.length := by omega
    have en := feedL_prev (a := startA op) hlt
    have ew : IntKind.i64.wrap ((k : Int) - 1) = (k : Int) - 1 := wrap_i64 (by omega) (by omega)
    simp [h0, h1, h2, h3, h9, h10, h12, hlt]
    refine TDK.call' (T_feed (feedL (startA op) (b.drop (k + 1)).reverse) b[k] (ib _ (List.getElem_mem hlt))) (by simp) ?_
    simp [h0, h1, h2, h3, h9, h10, h12, hlt]
    exact ⟨k, by omega, ew, by omega, by rw [en]; simp⟩
theorem S_AggMerges {xs : List AV} (h : ShA Try.prog [3, 42, 42, 3] xs) : T Try.prog 14 xs (.bool true) := by
  obtain ⟨u, r, rfl, h0, h⟩ := h.cons_of ag_3
  obtain ⟨y, r, rfl, h1, h⟩ := h.cons_of ag_42
  obtain ⟨z, r, rfl, h2, h⟩ := h.cons_of ag_42
  obtain ⟨w, r, rfl, h3, h⟩ := h.cons_of ag_3
  obtain rfl := h.nil_of
  obtain ⟨op, rfl, _⟩ := h0.int_of un_3
  obtain ⟨op2, rfl, _⟩ := h3.int_of un_3
  obtain ⟨a, rfl, va, ha⟩ := vals_in h1
  obtain ⟨b, rfl, vb, hb⟩ := vals_in h2
  exact T_AggMerges op a b op2 ha hb va vb
end Go.Proofs.Ytgmhmdmfnmlhmab.PL
