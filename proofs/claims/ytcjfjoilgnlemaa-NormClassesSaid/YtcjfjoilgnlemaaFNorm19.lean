/- Conditions, by where they are asked: the statement. -/
import Derived.Test.YtcjfjoilgnlemaaFNorm18
import Derived.Test.YtcjfjoilgnlemaaFNorm16
namespace Go.Proofs.Ytcjfjoilgnlemaa.PL
open Go.Proofs
set_option linter.unusedVariables false
set_option linter.unusedSimpArgs false
theorem muchQ_sml {q : Qry} (h : muchQ q = false) : Smal q := by
  unfold muchQ at h
  simp only [Bool.or_eq_false_iff, decide_eq_false_iff_not] at h
  obtain ⟨⟨⟨⟨⟨⟨h1, h2⟩, h3⟩, h4⟩, h5⟩, h6⟩, h7⟩ := h
  refine ⟨by omega, fun f hf => ?_, by have := muchE_no h4; omega⟩
  have := List.any_eq_false.1 h7 f hf
  simp only [muchF, Bool.or_eq_true, not_or] at this
  have := muchE_no (Bool.eq_false_iff.2 this.1)
  omega
theorem l16_ok : OkQ l16 ∧ Smal l16 := by
  have o0 : OkE (.mk 0 ByteArray.empty ByteArray.empty 0 0 zV []) := .mk (by simp) (by simp [valIn]) (by decide) (by decide) (by simp)
  have o1 : OkE laE := .mk (by simp [laE]) (by simp [laE, valIn]) (by decide) (by decide) (by simp [laE])
  have o2 : OkE lcE := .mk (by simp [lcE]) (by simp [lcE, valIn]) (by decide) (by decide) (by simp [lcE])
  have o3 : OkE (.mk 1 ByteArray.empty ByteArray.empty 0 0 zV [laE, lcE]) := .mk (by simp) (by simp [valIn]) (by decide) (by decide) (by simp [o1, o2])
  have o4 : OkE (.mk 13 ByteArray.empty ByteArray.empty 0 0 zV [lcE]) := .mk (by simp) (by simp [valIn]) (by decide) (by decide) (by simp [o2])
  refine ⟨⟨⟨by simp [l16], by simp [l16]⟩, ?_, by simp [l16], o4, ⟨by simp [l16], by simp [l16]⟩⟩, ⟨by simp [l16], ?_, by simp [l16, lcE, Ex'.nodes, Ex'.nodesL]⟩⟩
  · intro f hf
    simp [l16] at hf
    rcases hf with rfl | rfl
    · exact ⟨by decide, by decide, o0⟩
    · exact ⟨by decide, by decide, o3⟩
  · intro f hf
    simp [l16] at hf
    rcases hf with rfl | rfl <;> simp [lcE, laE, Ex'.nodes, Ex'.nodesL]
set_option maxRecDepth 8000 in
theorem T_live16 : T Try.prog 28 [] (.bool true) := by
  have ko := T_nof l16 l16_ok.1 l16_ok.2
  obtain ⟨i1, i2, i3, i4⟩ := live16_is
  have hd : Dws [l16.av] [l16.av] := Dws.self (by simp)
  generalize normR l16 = n at *
  obtain ⟨c, sc, ed, re, la, wh⟩ := n
  simp only at i1 i2 i3 i4
  subst i1
  match sc, i3, ed, i2 with
  | [s0, s1], _, [x], _ =>
  match s1, i4 with
  | [y], _ =>
  refine T.intro (TS.body mix Try.func28 (by kernel_rfl) rfl (by kernel_rfl) (by simp) ?_)
  simp
  refine TS.callW ko ?_ ?_
  · simp only [l16, laE, lcE, zV, avs_cons, avs_nil]
    refine .cons ?_ .nil
    repeat (first | exact .self rfl | constructor)
  simp
set_option maxRecDepth 8000 in
theorem T_NormOfs (q : Qry) (a : Ex') (hq : OkQ q) (ha : OkE a) : T Try.prog 6 [q.av, a.av] (.bool true) := by
  have km := T_muchQ q hq
  have ke := T_muchE a ha
  simp only [Ex'.av_eq] at ke
  refine T.intro (TS.body mix Try.func6 (by kernel_rfl) rfl (by kernel_rfl) (by simp) ?_)
  simp
  refine TS.callW km (Dws.self (by simp)) ?_
  cases hm : muchQ q with
  | true =>
    simp
    refine GTK.callW (fun h => nomatch h) (ys := []) (r := .bool true) ?_
    simp
    refine TS.callW T_live16 .nil ?_
    simp
  | false =>
  simp
  refine GTK.callW (fun _ => ⟨ke, Dws.self (by simp)⟩) ?_
  cases hme : muchE a with
  | true =>
    simp
    refine TS.callW T_live16 .nil ?_
    simp
  | false =>
  have hs := muchQ_sml hm
  have hn := muchE_no hme
  have u1 := T_nuses a ha (by omega)
  have u2 := T_ruses a ha (by omega)
  have a1 := T_nasEdge a ha
  have a2 := T_rasEdge a ha
  have p1 := T_nparts a ha (by omega)
  have p2 := T_rparts a ha (by omega)
  have n1 := T_nof q hq hs
  have n2 := T_rof16 q hq hs
  have c1 := T_ncore q hq.len
  have c2 := T_rcore q hq.len
  have sm := T_same16 (normR q) (normR_ok hq hs)
  have hul := usesI_len a
  have hpl := a.parts_len
  have hpo := a.parts_ok ha
  have sa := T_sameAll1 a.parts ⟨by omega, fun x hx => (hpo x hx).1⟩
  obtain ⟨U, hU⟩ : ∃ U, U = usesI a := ⟨_, rfl⟩
  rw [← hU] at u1 u2 hul
  obtain ⟨C, hC⟩ : ∃ C, C = a.parts := ⟨_, rfl⟩
  rw [← hC] at p1 p2 sa
  obtain ⟨n, hN⟩ : ∃ n, n = normR q := ⟨_, rfl⟩
  rw [← hN] at n1 n2 sm
  simp only [Ex'.av_eq] at u1 u2 a1 a2 p1 p2
  simp
  refine TS.callW a1 (Dws.self (by simp)) ?_
  simp
  refine TS.callW a2 (Dws.self (by simp)) ?_
  simp
  refine TDK.callW u1 (Dws.self (by simp)) ?_
  simp
  refine TDK.callW u2 (Dws.self (by simp)) ?_
  simp
  refine vc_loop (fun i : Nat => U.length - i) (fun i e H => e 2 = .ptr 0 0 ∧ e 3 = .ptr 1 0 ∧ e 5 = .ptr 2 0 ∧ e 6 = .bool (isEdge a) ∧ e 7 = .ptr 3 0 ∧ e 8 = .bool (isEdge a) ∧ e 9 = .sl .no (ints' U) ∧ e 10 = .sl .no (ints' U) ∧ e 11 = .int .i64 i ∧ i ≤ U.length ∧ H = [.box q.cs, .box a.cs, .box (asEdge a).cs, .box (asEdge a).cs]) 0 ?_ ?_
  · simp
  rintro i e H ⟨e2, e3, e5, e6, e7, e8, e9, e10, e11, hi, rfl⟩
  by_cases hlt : i < U.length
  · have ew := wrap_next hlt (by omega)
    simp [e2, e3, e5, e6, e7, e8, e9, e10, e11, hlt]
    exact ⟨i + 1, by omega, ew, by omega⟩
  have : i = U.length := by omega
  subst this
  simp [e2, e3, e5, e6, e7, e8, e9, e10, e11]
  refine TDK.callW n1 (Dws.self (by simp)) ?_
  simp [e2, e3, e5, e6, e7, e8, e9, e10, e11]
  refine TDK.callW n2 (Dws.self (by simp)) ?_
  simp [e2, e3, e5, e6, e7, e8, e9, e10, e11]
  refine TDK.callW sm (Dws.self (by simp)) ?_
  simp [e2, e3, e5, e6, e7, e8, e9, e10, e11]
  refine GTK.callW (fun _ => ⟨c1, Dws.self (by simp)⟩) ?_
  simp [e2, e3, e5, e6, e7, e8, e9, e10, e11]
  refine GTK.callW (fun _ => ⟨c2, Dws.self (by simp)⟩) ?_
  simp [e2, e3, e5, e6, e7, e8, e9, e10, e11]
  refine GTK.callW (fun _ => ⟨p1, Dws.self (by simp)⟩) ?_
  simp [e2, e3, e5, e6, e7, e8, e9, e10, e11]
  refine GTK.callW (fun _ => ⟨p2, Dws.self (by simp)⟩) ?_
  simp [e2, e3, e5, e6, e7, e8, e9, e10, e11]
  refine GTK.callW (fun _ => ⟨sa, Dws.self (by simp)⟩) ?_
  simp [e2, e3, e5, e6, e7, e8, e9, e10, e11]
  refine GTK.callW (fun _ => ⟨T_live16, .nil⟩) ?_
  simp
theorem S_NormOfs {xs : List AV} (h : ShA Try.prog [55, 53] xs) : T Try.prog 6 xs (.bool true) := by
  obtain ⟨y, r, rfl, h0, h⟩ := h.cons_of ag_55
  obtain ⟨y, r, rfl, h1, h⟩ := h.cons_of ag_53
  obtain rfl := h.nil_of
  obtain ⟨q, rfl, hq⟩ := Qry_in h0
  obtain ⟨a, rfl, ha, _⟩ := Expr_in h1
  have := T_NormOfs q a hq ha
  rw [Ex'.av_eq] at this
  exact this
end Go.Proofs.Ytcjfjoilgnlemaa.PL
