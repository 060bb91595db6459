/- What the law of spans tells. -/
import Derived.Test.YtgmhmdmfnmlhmabFSpan
namespace Go.Proofs.Ytgmhmdmfnmlhmab.PL
open Go.Proofs
set_option linter.unusedVariables false
set_option linter.unusedSimpArgs false
theorem T_SpanTells (a b : List Val) (v : Val) (ha : a.length < 4611686018427387904) (hb : b.length < 4611686018427387904) (va : ∀ v, v ∈ a → valIn v) (vb : ∀ v, v ∈ b → valIn v) : T Try.prog 7 [rowA a, rowA b, v.av] (.bool true) := by
  refine T.intro (TS.body mix Try.func7 (by kernel_rfl) rfl (by kernel_rfl) (by simp) ?_)
  simp
  have hr := reach_lt
  have hM := T_much [a, b] (by show 2 < _; omega) (fun r hr v hv => by
    simp at hr
    rcases hr with rfl | rfl
    · exact (va v hv).2.2
    · exact (vb v hv).2.2)
  refine TS.call hM (by simp) ?_
  simp
  refine condK_of (fun h => ?_) (fun h => ?_)
  · simp
    (first | refine TS.call' (T_live19) (by simp) ?_ | refine TDK.call' (T_live19) (by simp) ?_ | refine GTK.call (fun _ => ⟨T_live19, by simp⟩) ?_ | refine TS.call (T_live19) (by simp) ?_ | refine TDK.call (T_live19) (by simp) ?_); simp
  simp at h
  have hm := much_no h.1
  have la := (hm.2 a (by simp)).1
  have lb := (hm.2 b (by simp)).1
  have hvs : v.s.size < 4611686018427387904 := by omega
  have hs : ∀ w, w ∈ a ++ b → w.s.size < 4611686018427387904 := fun w hw => by
    rcases List.mem_append.1 hw with h | h
    · have := (va w h).2.2; omega
    · have := (vb w h).2.2; omega
  have hlen : (a ++ b).length < 4611686018427387904 := by simp; omega
  have hlen2 : (b ++ a).length < 4611686018427387904 := by simp; omega
  have hE := TellsE.all (a ++ b)
  have T1 := (Tells.zero.add (l := a) (by simp; omega)).add (l := b) (by simp; omega)
  have T2 := Tells.join (Tells.zero.add (l := b) (by simp; omega)) (Tells.zero.add (l := a) (by simp; omega)) (by simp; omega)
  simp only [List.nil_append] at T1 T2
  have hmem : ∀ w, w ∈ b ++ a ↔ w ∈ a ++ b := fun w => by simp [or_comm]
  have hself : ∀ w, w ∈ a ++ b ↔ w ∈ a ++ b := fun w => Iff.rfl
  have q1 := Low.unique hself T1.lo hE.lo
  have q2 := High.unique hmem T2.hi hE.hi
  have q3 := Low.unique hmem T2.lo hE.lo
  have p1 := tells_has hself T1 v
  have p2 := tells_has hmem T2 v
  have c1 := T1.n
  have c2 := T1.m
  have c3 := T2.n
  have c4 := T2.m
  have ca := cnt_all (a ++ b)
  have cb := cnt_all (b ++ a)
  have hz : Span.zero.av = .agg [.int .i64 0, .int .i64 0, .str ByteArray.empty, .int .i64 0, .int .i64 0, .str ByteArray.empty, .int .i64 0, .int .i64 0] := rfl
  have hlo : (endsL (a ++ b)).lo.s.size < 4611686018427387904 := by
    rcases hE.lo with ⟨_, e⟩ | ⟨e, _⟩
    · rw [e]; show 0 < _; omega
    · exact hs _ e
  have hall := T_ends (a ++ b) hlen hs
  have hRl : T Try.prog 37 [rowA (a ++ b), v.av] (.bool (rhasL (a ++ b) v)) := T_rhas (a ++ b) v hlen hs hlo hvs
  simp
  refine ⟨⟨by omega, by omega⟩, ⟨by omega, by omega⟩, ?_⟩
  refine TS.call hall (by simp) ?_
  simp
  refine TS.call' (hz ▸ T_add Span.zero a ha) (by simp) ?_
  simp
  refine TS.call' (T_add (addS Span.zero a) b hb) (by simp) ?_
  generalize addS (addS Span.zero a) b = S1 at *
  simp
  refine TS.call' (hz ▸ T_add Span.zero b hb) (by simp) ?_
  simp
  refine TS.call' (hz ▸ T_add Span.zero a ha) (by simp) ?_
  simp
  refine TS.call' (T_union (addS Span.zero b) (addS Span.zero a)) (by simp) ?_
  generalize uniS (addS Span.zero b) (addS Span.zero a) = S2 at *
  simp
  have z1 := cntN_zero (L := a ++ b)
  have z2 := cntN_zero (L := b ++ a)
  have y1 := cntZ_pos (L := a ++ b)
  have y2 := cntZ_pos (L := b ++ a)
  have w2 : (∀ w, w ∈ b ++ a → w.k = 0) ↔ ∀ w, w ∈ a ++ b → w.k = 0 := ⟨fun h w hw => h w ((hmem w).2 hw), fun h w hw => h w ((hmem w).1 hw)⟩
  have x2 : (∃ w, w ∈ b ++ a ∧ w.k = 0) ↔ ∃ w, w ∈ a ++ b ∧ w.k = 0 := ⟨fun ⟨w, hw, h⟩ => ⟨w, (hmem w).1 hw, h⟩, fun ⟨w, hw, h⟩ => ⟨w, (hmem w).2 hw, h⟩⟩
  have d1 : decide (0 < S1.n) = (endsL (a ++ b)).some := by
    rw [Bool.eq_iff_iff, hE.some, decide_eq_true_iff, c1, ← z1]; omega
  have d2 : decide (0 < S2.n) = (endsL (a ++ b)).some := by
    rw [Bool.eq_iff_iff, hE.some, decide_eq_true_iff, c3, ← w2, ← z2]; omega
  have d3 : decide (0 < S1.m) = (endsL (a ++ b)).nulls := by
    rw [Bool.eq_iff_iff, hE.nulls, decide_eq_true_iff, c2, ← y1]; omega
  have d4 : decide (0 < S2.m) = (endsL (a ++ b)).nulls := by
    rw [Bool.eq_iff_iff, hE.nulls, decide_eq_true_iff, c4, ← x2, ← y2]; omega
  have g1 := T_low S1
  have g2 := T_high S2
  have g3 := T_low S2
  have g4 := T_nulls S1
  have g5 := T_nulls S2
  have g6 := T_has S1 v
  have g7 := T_has S2 v
  have g8 := T_count S1
  have g9 := T_count S2
  rw [q1, d1] at g1
  rw [q2, d2] at g2
  rw [q3, d2] at g3
  rw [d3] at g4
  rw [d4] at g5
  rw [p1] at g6
  rw [p2] at g7
  have n8 : IntKind.i64.wrap (S1.n + S1.m) = a.length + b.length := by
    rw [c1, c2, wrap_i64 (by omega) (by omega)]
    rw [List.length_append] at ca; omega
  have n9 : IntKind.i64.wrap (S2.n + S2.m) = a.length + b.length := by
    rw [c3, c4, wrap_i64 (by omega) (by omega)]
    rw [List.length_append] at cb; omega
  rw [n8] at g8
  rw [n9] at g9
  refine TS.call' g1 (by simp) ?_
  simp
  refine TS.call' g2 (by simp) ?_
  simp
  refine TS.call' g3 (by simp) ?_
  simp
  refine GTK.call (fun _ => ⟨g4, by simp⟩) ?_
  simp
  refine GTK.call (fun _ => ⟨g5, by simp⟩) ?_
  simp
  refine TDK.call' g6 (by simp) ?_
  simp
  refine TDK.call hRl (by simp) ?_
  simp
  refine GTK.call (fun _ => ⟨g7, by simp⟩) ?_
  simp
  refine GTK.call (fun _ => ⟨hRl, by simp⟩) ?_
  simp
  refine GTK.call (fun _ => ⟨g8, by simp⟩) ?_
  simp
  refine GTK.call (fun _ => ⟨g9, by simp⟩) ?_
  simp
  refine GTK.call (fun _ => ⟨T_live19, by simp⟩) ?_
  simp
theorem S_SpanTells {xs : List AV} (h : ShA Try.prog [42, 42, 46] xs) : T Try.prog 7 xs (.bool true) := by
  obtain ⟨y, r, rfl, h1, h⟩ := h.cons_of ag_42
  obtain ⟨z, r, rfl, h2, h⟩ := h.cons_of ag_42
  obtain ⟨w, r, rfl, h3, h⟩ := h.cons_of ag_46
  obtain rfl := h.nil_of
  obtain ⟨a, rfl, va, ha⟩ := vals_in h1
  obtain ⟨b, rfl, vb, hb⟩ := vals_in h2
  obtain ⟨v, e, _, vk, vi, vs⟩ := Val_in h3
  rw [e]
  exact T_SpanTells a b v ha hb va vb
end Go.Proofs.Ytgmhmdmfnmlhmab.PL
