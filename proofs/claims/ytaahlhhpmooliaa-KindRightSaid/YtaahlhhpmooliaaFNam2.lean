/- Expressions and queries, their names told. -/
import Derived.Test.YtaahlhhpmooliaaFNam
namespace Go.Proofs.Ytaahlhhpmooliaa.PL
open Go.Proofs
set_option linter.unusedVariables false
set_option linter.unusedSimpArgs false
theorem frz_zB {H : List HO} {b : Bool} : Frz H (.tup [.agg [.int .i64 0, .str ByteArray.empty, .str ByteArray.empty, .int .i64 0, .int .i64 0, .int .i64 0, .int .i64 0, .str ByteArray.empty, .sl .exact []], .bool b]) (.tup [.agg zE.cs, .bool b]) := by
  refine .tup (.cons (.agg ?_) (.cons (.cl (by simp)) .nil))
  repeat (refine .cons (.cl (by simp [zE])) ?_)
  exact .nil
theorem frz_self {H : List HO} (e : Ex') : Frz H (.agg e.cs) (.agg e.cs) := .agg (FrzC.refl fun x hx => Selfs.self (f := Ex'.av) e x (by rw [Ex'.av_eq]; exact hx))
section
variable (ts : List Tab) (fs : List Frm) (seen : List Int)
mutual
def exprF : Ex' → Option Ex'
  | .mk op tab name t c v l => if op = 15 then colF ts fs seen (.mk op tab name t c v l) else (exprFL l).map fun m => .mk op tab name t c v m
def exprFL : List Ex' → Option (List Ex')
  | [] => some []
  | e :: l => match exprF e with
    | none => none
    | some e' => (exprFL l).map fun m => e' :: m
end
end
variable {ts : List Tab} {fs : List Frm} {seen : List Int}
theorem exprF_eq (e : Ex') : exprF ts fs seen e = if e.op = 15 then colF ts fs seen e else (exprFL ts fs seen e.l).map fun m => .mk e.op e.tab e.name e.t e.c e.v m := by cases e; rw [exprF]; rfl
theorem exprFL_snoc : ∀ (l : List Ex') (x : Ex'), exprFL ts fs seen (l ++ [x]) = match exprFL ts fs seen l with
    | none => none
    | some m => (exprF ts fs seen x).map fun y => m ++ [y]
  | [], x => by
    simp only [List.nil_append, exprFL]
    cases exprF ts fs seen x <;> simp
  | e :: l, x => by
    simp only [List.cons_append, exprFL, exprFL_snoc l x]
    cases exprF ts fs seen e with
    | none => rfl
    | some e' =>
      cases exprFL ts fs seen l with
      | none => rfl
      | some m => cases exprF ts fs seen x <;> simp
theorem exprFL_none : ∀ {l : List Ex'} {i : Nat} (h : i < l.length), exprF ts fs seen l[i] = none → exprFL ts fs seen l = none
  | e :: l, 0, _, h => by simp only [List.getElem_cons_zero] at h; simp [exprFL, h]
  | e :: l, i + 1, hl, h => by
    simp only [List.getElem_cons_succ] at h
    have := exprFL_none (by simpa using hl) h
    simp only [exprFL, this]
    cases exprF ts fs seen e <;> rfl
theorem exprFL_len : ∀ {l m : List Ex'}, exprFL ts fs seen l = some m → m.length = l.length
  | [], m, h => by simp [exprFL] at h; subst h; rfl
  | e :: l, m, h => by
    simp only [exprFL] at h
    split at h
    · cases h
    · cases hm : exprFL ts fs seen l with
      | none => rw [hm] at h; cases h
      | some q =>
        rw [hm] at h
        simp at h
        subst h
        simp [exprFL_len hm]
theorem T_nexpr (hts : TsOk ts) (hs : seen.length ≤ 1000000) (e : Ex') : OkE e → e.nodes ≤ 1000000 → T Try.prog 22 [.sl .no (avs Tab.av ts), .sl .no (frms fs), .sl .no (ints' seen), e.av] (.tup [((exprF ts fs seen e).getD zE).av, .int .i64 (if (exprF ts fs seen e).isSome = true then 0 else 2)]) := by
  induction e using Ex'.ind with
  | h a ih =>
  intro ha hn
  rw [Ex'.nodes_eq] at hn
  have hal := Ex'.len_le a.l
  refine T.introF (TS.body mix Try.func22 (by kernel_rfl) rfl (by kernel_rfl) (by simp) ?_)
  rw [exprF_eq]
  by_cases k1 : a.op = 15
  · have f := T_ncol ts fs seen a hts hs
    simp only [Ex'.av_eq] at f
    simp only [Ex'.cs, k1] at f
    rw [if_pos k1]
    simp [k1]
    refine TS.callW f (Dws.self (by simp)) ?_
    simp [k1]
    exact .tup (.cons (frz_self _) (.cons (.cl (by simp)) .nil))
  · rw [if_neg k1]
    simp [k1]
    refine vc_loop (fun i : Nat => a.l.length - i) (fun i en H => ∃ (M : List Ex') (x : AV) (cs1 : List AV) (J : List HO), en 0 = .sl .no (avs Tab.av ts) ∧ en 1 = .sl .no (frms fs) ∧ en 2 = .sl .no (ints' seen) ∧ en 7 = .ptr 0 0 ∧ en 8 = .ptr 1 0 ∧ en 10 = x ∧ en 26 = .sl .no (exprs a.l) ∧ en 27 = .int .i64 a.l.length ∧ en 28 = .int .i64 i ∧ i ≤ a.l.length ∧ M.length = i ∧ exprFL ts fs seen (a.l.take i) = some M ∧ GrowK 2 9 J x (exprs M) ∧ cs1.length = 9 ∧ H = .box a.cs :: .box cs1 :: J) 0 ?_ ?_
    · refine ⟨[], .sl .nil [], [.int .i64 0, .str ByteArray.empty, .str ByteArray.empty, .int .i64 0, .int .i64 0, .int .i64 0, .int .i64 0, .str ByteArray.empty, .sl .exact []], [], ?_⟩
      simp [exprFL, GrowK]
    rintro i en H ⟨M, x, cs1, J, h0, h1, h2, h7, h8, h10, h26, h27, h28, hi, hM, hx, hg, hcs, rfl⟩
    by_cases hlt : i < a.l.length
    · have hxm := List.getElem_mem hlt
      have hnx := Ex'.nodesL_mem hxm
      have hc := ih a.l[i] hxm (ha.sub hxm) (by omega)
      have ew := wrap_next hlt (by omega)
      have es := exprFL_snoc (ts := ts) (fs := fs) (seen := seen) (a.l.take i) a.l[i]
      rw [← take_next hlt, hx] at es
      have en0 := exprFL_none (ts := ts) (fs := fs) (seen := seen) hlt
      simp only [Ex'.av_eq] at hc
      simp [h0, h1, h2, h7, h8, h10, h26, h27, h28, hlt]
      refine TS.callW hc (Dws.self (by simp)) ?_
      cases hy : exprF ts fs seen a.l[i] with
      | none =>
        rw [en0 hy]
        simp [h0, h1, h2, h7, h8, h10, h26, h27, h28, hlt, hcs]
        exact frz_zE
      | some y =>
        rw [hy] at es
        simp only [Option.map_some] at es
        rcases hg with ⟨ge, rfl⟩ | ⟨t, rfl, ht⟩
        · rw [avs_eq_nil] at ge
          subst ge
          simp [h0, h1, h2, h7, h8, h10, h26, h27, h28, hlt, hcs]
          have e1 : exprs [y] = [.agg y.cs] := by simp
          refine ⟨i + 1, by omega, ew, by omega, [y], by simp at hM; simp; omega, es, cs1, _, .inr ⟨J.length + 2, by rw [e1], by rw [e1]; simp⟩, hcs, rfl, rfl⟩
        · have htl := (List.getElem?_eq_some_iff.1 ht).1
          have ht' : ∀ Y : List HO, (J ++ Y)[t]? = some (.spare M.length 9) := fun Y => by rw [List.getElem?_append_left htl]; simpa using ht
          simp [h0, h1, h2, h7, h8, h10, h26, h27, h28, hlt, hcs, ht']
          have e1 : exprs (M ++ [y]) = exprs M ++ [.agg y.cs] := by simp [avs]
          refine ⟨⟨by omega, by omega⟩, i + 1, by omega, ew, by omega, M ++ [y], by simp; omega, es, cs1, _, .inr ⟨t, by rw [e1], ?_⟩, hcs, rfl, rfl⟩
          rw [List.getElem?_set_self (by simp; omega), e1]
          simp
    · have hil : i = a.l.length := by omega
      subst hil
      rw [List.take_length] at hx
      rw [hx]
      obtain ⟨own, rfl⟩ := hg.own
      simp [h0, h1, h2, h7, h8, h10, h26, h27, h28, hcs]
      refine .tup (.cons (.agg ?_) (.cons (.cl (by simp)) .nil))
      repeat (refine .cons (.cl (by simp)) ?_)
      first | exact .nil | exact .cons (Frz.slN (f := Ex'.av) (l := M)) .nil
theorem T_rexpr (hts : TsOk ts) (hs : seen.length ≤ 1000000) (e : Ex') : OkE e → e.nodes ≤ 1000000 → T Try.prog 23 [.sl .no (avs Tab.av ts), .sl .no (frms fs), .sl .no (ints' seen), e.av] (.tup [((exprF ts fs seen e).getD zE).av, .bool (exprF ts fs seen e).isSome]) := by
  induction e using Ex'.ind with
  | h a ih =>
  intro ha hn
  rw [Ex'.nodes_eq] at hn
  have hal := Ex'.len_le a.l
  refine T.introF (TS.body mix Try.func23 (by kernel_rfl) rfl (by kernel_rfl) (by simp) ?_)
  rw [exprF_eq]
  by_cases k1 : a.op = 15
  · have f := T_rfind11 ts fs seen a.tab a.name hts hs
    rw [if_pos k1]
    simp [k1]
    refine TS.callW f (Dws.self (by simp)) ?_
    by_cases hone : (hitsF ts fs a.tab a.name seen).length = 1
    · obtain ⟨p, hp⟩ := one_len hone
      obtain ⟨g, hg⟩ := hits_in (tab := a.tab) seen p (by rw [hp]; simp)
      rw [colF_one hp hg, hp]
      obtain ⟨m, hm, hm2, rfl⟩ := fAt_some hg
      obtain ⟨p1, p2⟩ := p
      simp only at hm2
      subst hm2
      have fal := T_ralias fs[m]
      simp [k1, oneH, hm]
      refine TDK.callW fal (Dws.self (by simp)) ?_
      simp [k1, hm]
      refine .tup (.cons (.agg ?_) (.cons (.cl (by simp)) .nil))
      repeat (refine .cons (.cl (by simp)) ?_)
      first | exact .nil | exact .cons (Frz.slN (f := Ex'.av) (l := [])) .nil
    · rw [colF_none rfl hone, oneH_no hone]
      simp [k1]
      exact frz_zB
  · rw [if_neg k1]
    simp [k1]
    refine vc_loop (fun i : Nat => a.l.length - i) (fun i en H => ∃ (M : List Ex') (x : AV) (cs1 : List AV) (J : List HO), en 0 = .sl .no (avs Tab.av ts) ∧ en 1 = .sl .no (frms fs) ∧ en 2 = .sl .no (ints' seen) ∧ en 7 = .ptr 0 0 ∧ en 8 = .ptr 1 0 ∧ en 13 = x ∧ en 14 = .int .i64 i ∧ i ≤ a.l.length ∧ M.length = i ∧ exprFL ts fs seen (a.l.take i) = some M ∧ GrowK 2 9 J x (exprs M) ∧ cs1.length = 9 ∧ H = .box a.cs :: .box cs1 :: J) 0 ?_ ?_
    · refine ⟨[], .sl .nil [], [.int .i64 0, .str ByteArray.empty, .str ByteArray.empty, .int .i64 0, .int .i64 0, .int .i64 0, .int .i64 0, .str ByteArray.empty, .sl .exact []], [], ?_⟩
      simp [exprFL, GrowK]
    rintro i en H ⟨M, x, cs1, J, h0, h1, h2, h7, h8, h13, h14, hi, hM, hx, hg, hcs, rfl⟩
    by_cases hlt : i < a.l.length
    · have hxm := List.getElem_mem hlt
      have hnx := Ex'.nodesL_mem hxm
      have hc := ih a.l[i] hxm (ha.sub hxm) (by omega)
      have ew := wrap_next hlt (by omega)
      have es := exprFL_snoc (ts := ts) (fs := fs) (seen := seen) (a.l.take i) a.l[i]
      rw [← take_next hlt, hx] at es
      have en0 := exprFL_none (ts := ts) (fs := fs) (seen := seen) hlt
      simp only [Ex'.av_eq] at hc
      simp [h0, h1, h2, h7, h8, h13, h14, hlt]
      refine TS.callW hc (Dws.self (by simp)) ?_
      cases hy : exprF ts fs seen a.l[i] with
      | none =>
        rw [en0 hy]
        simp [h0, h1, h2, h7, h8, h13, h14, hlt, hcs]
        exact frz_zB
      | some y =>
        rw [hy] at es
        simp only [Option.map_some] at es
        rcases hg with ⟨ge, rfl⟩ | ⟨t, rfl, ht⟩
        · rw [avs_eq_nil] at ge
          subst ge
          simp [h0, h1, h2, h7, h8, h13, h14, hlt, hcs]
          have e1 : exprs [y] = [.agg y.cs] := by simp
          refine ⟨i + 1, by omega, ew, by omega, [y], by simp at hM; simp; omega, es, cs1, _, .inr ⟨J.length + 1, by rw [e1], by rw [e1]; simp⟩, hcs, rfl, rfl⟩
        · have htl := (List.getElem?_eq_some_iff.1 ht).1
          have ht' : ∀ Y : List HO, (J ++ Y)[t]? = some (.spare M.length 9) := fun Y => by rw [List.getElem?_append_left htl]; simpa using ht
          simp [h0, h1, h2, h7, h8, h13, h14, hlt, hcs, ht']
          have e1 : exprs (M ++ [y]) = exprs M ++ [.agg y.cs] := by simp [avs]
          refine ⟨⟨by omega, by omega⟩, i + 1, by omega, ew, by omega, M ++ [y], by simp; omega, es, cs1, _, .inr ⟨t, by rw [e1], ?_⟩, hcs, rfl, rfl⟩
          rw [List.getElem?_set_self (by simp; omega), e1]
          simp
    · have hil : i = a.l.length := by omega
      subst hil
      rw [List.take_length] at hx
      rw [hx]
      obtain ⟨own, rfl⟩ := hg.own
      simp [h0, h1, h2, h7, h8, h13, h14, hcs]
      refine .tup (.cons (.agg ?_) (.cons (.cl (by simp)) .nil))
      repeat (refine .cons (.cl (by simp)) ?_)
      first | exact .nil | exact .cons (Frz.slN (f := Ex'.av) (l := M)) .nil
end Go.Proofs.Ytaahlhhpmooliaa.PL
