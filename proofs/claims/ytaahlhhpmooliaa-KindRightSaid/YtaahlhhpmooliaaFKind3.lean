/- Kinds of expressions: the reference. -/
import Derived.Test.YtaahlhhpmooliaaFKind2
namespace Go.Proofs.Ytaahlhhpmooliaa.PL
open Go.Proofs
set_option linter.unusedVariables false
set_option linter.unusedSimpArgs false
variable {ts : List Tab}
theorem T_rsums12 (e : Ex') : OkE e → e.nodes ≤ 1000000 → T Try.prog 86 [e.av] (.bool e.sums) := by
  induction e using Ex'.ind with
  | h a ih =>
  intro ha hn
  rw [Ex'.nodes_eq] at hn
  have hal := Ex'.len_le a.l
  refine T.intro (TS.body mix Try.func86 (by kernel_rfl) rfl (by kernel_rfl) (by simp) ?_)
  rw [Ex'.sums_eq, sumsL_any]
  by_cases h1 : 17 ≤ a.op ∧ a.op ≤ 21
  · simp [h1.1, h1.2]
  have h1' : (decide (17 ≤ a.op) && decide (a.op ≤ 21)) = false := by simpa using h1
  rw [h1', Bool.false_or]
  simp [h1']
  refine vc_loop (fun i : Nat => a.l.length - i) (fun i en H => en 1 = .ptr 0 0 ∧ en 3 = .int .i64 i ∧ i ≤ a.l.length ∧ (a.l.take i).any Ex'.sums = false ∧ H = [.box a.cs]) 0 ?_ ?_
  · simp
  rintro i en H ⟨e1, e3, hi, hno, rfl⟩
  by_cases hlt : i < a.l.length
  · have hm := List.getElem_mem hlt
    have hc := ih _ hm (ha.sub hm) (by have := Ex'.nodesL_mem hm; omega)
    have ew := wrap_next hlt (by omega)
    simp only [Ex'.av_eq, Ex'.cs] at hc
    simp [e1, e3, hlt]
    refine TS.callW hc (Dws.self (by simp)) ?_
    cases hs : (a.l[i]).sums with
    | true =>
      rw [any_take hlt hs]
      simp [e1, e3, hlt]
    | false =>
      simp [e1, e3, hlt]
      exact ⟨i + 1, by omega, ew, by omega, by simpa using any_next hlt hno hs⟩
  · have hil : i = a.l.length := by omega
    subst hil
    rw [List.take_length] at hno
    rw [hno]
    simp [e1, e3, hlt]
theorem T_pick12 (b : Bool) (k : Int) : T Try.prog 87 [.bool b, .int .i64 k] (.tup [.int .i64 ((oneK b k).getD 0), .bool b]) := by
  refine T.intro (TS.body mix Try.func87 (by kernel_rfl) rfl (by kernel_rfl) (by simp) ?_)
  cases b <;> simp [oneK]
theorem T_pick12' {o : Option Int} {b : Bool} {k : Int} (h : o = oneK b k) : T Try.prog 87 [.bool b, .int .i64 k] (.tup [.int .i64 (o.getD 0), .bool o.isSome]) := by
  subst h
  rw [oneK_isSome]
  exact T_pick12 b k
theorem sumsL_one' (l : List Ex') (h : l.length = 1) : Ex'.sumsL l = (l[0]'(by omega)).sums := by
  match l, h with
  | [x], _ => simp [Ex'.sumsL]
set_option maxRecDepth 100000 in
set_option maxHeartbeats 2000000 in
theorem T_rOf (hts : TsK ts) (e : Ex') : OkE e → e.nodes ≤ 1000000 → T Try.prog 33 [.sl .no (avs Tab.av ts), e.av] (.tup [.int .i64 ((kindE ts e).getD 0), .bool (kindE ts e).isSome]) := by
  induction e using Ex'.ind with
  | h a ih =>
  intro ha hn
  have hts1 := hts.len
  have hts2 := hts.cols
  have hal := Ex'.len_le a.l
  rw [Ex'.nodes_eq] at hn
  have kr := T_rright a.v
  have ka := T_rargs a.op
  refine T.intro (TS.body mix Try.func33 (by kernel_rfl) rfl (by kernel_rfl) (by simp) ?_)
  rw [kindE_eq]
  by_cases h1 : a.op < 1
  · simp [h1]
    refine GTK.callW (fun h => nomatch h) (ys := []) (r := .bool true) ?_
    simp
  by_cases h2 : 21 < a.op
  · simp [h1, h2]
    refine GTK.callW (fun h => nomatch h) (ys := []) (r := .bool true) ?_
    simp
  by_cases h3 : (a.l.length : Int) = argsE a.op
  case neg =>
    simp [h1, h2, h3]
    refine GTK.callW (fun _ => ⟨ka, Dws.self (by simp)⟩) ?_
    simp [h3]
  have hno : ¬ (a.op < 1 ∨ 21 < a.op ∨ ¬ (a.l.length : Int) = argsE a.op) := by omega
  rw [if_neg hno]
  by_cases h6 : a.op = 16
  · rw [if_pos h6]
    simp [h1, h2]
    refine GTK.callW (fun _ => ⟨ka, Dws.self (by simp)⟩) ?_
    simp [h3, h6]
    refine TS.callW kr (Dws.self (by simp)) ?_
    cases rightV a.v <;> simp
  rw [if_neg h6]
  by_cases h5 : a.op = 15
  · rw [if_pos h5]
    simp [h1, h2]
    refine GTK.callW (fun _ => ⟨ka, Dws.self (by simp)⟩) ?_
    rcases split3 a.t ts.length with g2 | ⟨g2, g3⟩ | ⟨k, hk, g2⟩
    · rw [colK_t0 (.inl g2)]
      cases hq : ts[a.t.toNat]? <;> simp [h3, h5, g2, hq]
    · rw [colK_t0 (.inr (.inl g3))]
      cases hq : ts[a.t.toNat]? <;> simp [h3, h5, g2, g3, hq]
    · have n1 : ¬ (k : Int) < 0 := by omega
      have n2 : ¬ ts.length ≤ k := by omega
      rcases split3 a.c (ts[k]).cols.length with g4 | ⟨g4, g5⟩ | ⟨j, hj, g4⟩
      · rw [colK_t0 (.inr (.inr g4))]
        simp [h3, h5, g2, n1, n2, g4, hk]
      · rw [g2, colK_out hk g5]
        cases hq : (ts[k]).cols[a.c.toNat]? <;> simp [h3, h5, g2, n1, n2, hk, g4, g5, hq]
      · have n3 : ¬ (j : Int) < 0 := by omega
        have n4 : ¬ (ts[k]).cols.length ≤ j := by omega
        rw [g2, g4, colK_in hk hj]
        simp [h3, h5, g2, n1, n2, hk, hj, g4, n3, n4]
  rw [if_neg h5]
  simp [h1, h2]
  refine GTK.callW (fun _ => ⟨ka, Dws.self (by simp)⟩) ?_
  simp [h3, h5, h6]
  refine vc_loop (fun i : Nat => a.l.length - i) (fun i en H => ∃ M : List Int, en 0 = .sl .no (avs Tab.av ts) ∧ en 3 = .ptr 0 0 ∧ en 6 = .int .i64 (M.head?.getD 0) ∧ en 7 = .int .i64 (M.getLast?.getD 0) ∧ en 8 = .int .i64 i ∧ i ≤ a.l.length ∧ M.length = i ∧ kindL ts (a.l.take i) = some M ∧ ∃ J : List HO, H = .box a.cs :: J) 0 ?_ ?_
  · refine ⟨[], ?_⟩
    simp [kindL]
  rintro i en H ⟨M, e0, e3, e6, e7, e8, hi, hM, hx, J, rfl⟩
  by_cases hlt : i < a.l.length
  · have hm := List.getElem_mem hlt
    have hc := ih _ hm (ha.sub hm) (by have := Ex'.nodesL_mem hm; omega)
    have ew := wrap_next hlt (by omega)
    have es := kindL_snoc (ts := ts) (a.l.take i) a.l[i]
    rw [← take_next hlt, hx] at es
    have en0 := kindL_none (ts := ts) hlt
    simp only [Ex'.av_eq, Ex'.cs] at hc
    simp [e0, e3, e6, e7, e8, hlt]
    refine TS.callW hc (Dws.self (by simp)) ?_
    cases hy : kindE ts a.l[i] with
    | none =>
      rw [en0 hy]
      simp [e0, e3, e6, e7, e8, hlt]
    | some y =>
      rw [hy] at es
      simp only [Option.map_some] at es
      by_cases hi0 : i = 0
      · subst hi0
        have := List.eq_nil_of_length_eq_zero hM
        subst this
        simp [e0, e3, e6, e7, e8, hlt]
        exact ⟨1, by omega, [y], by simp, by simp, rfl, by omega, rfl, es⟩
      · simp [e0, e3, e6, e7, e8, hlt, hi0]
        refine ⟨i + 1, by omega, M ++ [y], ?_, by simp, ew, by omega, by simp [hM], es⟩
        cases M with
        | nil => simp at hM; omega
        | cons a l => simp
  have hil : i = a.l.length := by omega
  subst hil
  rw [List.take_length] at hx
  rw [hx]
  dsimp only
  have hargs := args_two h5 h6 hno
  have hp := fun (b : Bool) (k : Int) h => T_pick12' (o := ofK a.op (M.head?.getD 0) (M.getLast?.getD 0)) (b := b) (k := k) h
  have hlast : a.l.length = 1 → M.getLast?.getD 0 = M.head?.getD 0 := fun h => by
    match M, (show M.length = 1 by omega) with
    | [x], _ => rfl
  generalize M.head?.getD 0 = p at *
  generalize M.getLast?.getD 0 = r at *
  by_cases h17 : 17 ≤ a.op
  case neg =>
    simp [e0, e3, e6, e7, e8, h17]
    refine GTK.callW (fun h => nomatch h) (ys := []) (r := .bool true) ?_
    simp [e0, e3, e6, e7, e8]
    repeat (refine ⟨by grind, ?_⟩)
    by_cases c6 : a.op ≤ 6
    · have d7 : ¬ 7 ≤ a.op := by omega
      have d19 : ¬ a.op = 19 := by omega
      simp [e0, e3, e6, e7, e8, h17, c6, d7, d19]
      repeat (refine ⟨by grind, ?_⟩)
      refine TS.callW (hp _ 3 ?_) (Dws.self (by simp)) ?_
      · unfold ofK; rw [if_pos c6]; congr 1; grind
      · simp
    have f6 : 7 ≤ a.op := by omega
    by_cases c9 : a.op ≤ 9
    · simp [e0, e3, e6, e7, e8, h17, f6, c9]
      refine TS.callW (hp _ 1 ?_) (Dws.self (by simp)) ?_
      · unfold ofK; rw [if_neg c6, if_pos c9]; congr 1; unfold numK; grind
      · simp
    have d2 : ¬ a.op = 19 := by omega
    by_cases c12 : a.op ≤ 12
    · simp [e0, e3, e6, e7, e8, h17, f6, c6, c9, d2, c12]
      refine TS.callW (hp _ 3 ?_) (Dws.self (by simp)) ?_
      · unfold ofK
        rw [if_neg c6, if_neg c9]
        by_cases c11 : a.op ≤ 11
        · rw [if_pos c11]; congr 1; unfold truK; grind
        · rw [if_neg c11, if_pos (by omega), hlast (by omega)]; congr 1; unfold truK; grind
      · simp
    have c14 : a.op ≤ 14 := by omega
    · simp [e0, e3, e6, e7, e8, h17, f6, c6, c9, d2, c12, c14]
      refine TS.callW (hp _ 3 ?_) (Dws.self (by simp)) ?_
      · unfold ofK
        rw [if_neg c6, if_neg c9, if_neg (by omega), if_neg (by omega), if_pos c14, hlast (by omega)]; congr 1; grind
      · simp
  have f6 : 7 ≤ a.op := by omega
  have c6 : ¬ a.op ≤ 6 := by omega
  have c9 : ¬ a.op ≤ 9 := by omega
  have c12 : ¬ a.op ≤ 12 := by omega
  have c14 : ¬ a.op ≤ 14 := by omega
  by_cases c17 : a.op = 17
  · have hl0 : a.l.length = 0 := by omega
    have hln : a.l = [] := List.eq_nil_of_length_eq_zero hl0
    have hs0 : Ex'.sumsL a.l = false := by rw [hln]; simp only [Ex'.sumsL]
    simp [e0, e3, e6, e7, e8, h17, hl0]
    refine GTK.callW (fun h => nomatch h) (ys := []) (r := .bool true) ?_
    simp [e0, e3, e6, e7, e8]
    repeat (refine ⟨by grind, ?_⟩)
    simp [e0, e3, e6, e7, e8, h17, f6, c6, c9, c12, c14, c17, hs0]
    simp [ofK]
  have hl1 : a.l.length = 1 := by omega
  have hs1 : Ex'.sumsL a.l = (a.l[0]'(by omega)).sums := sumsL_one' a.l hl1
  have kx := T_rsums12 (a.l[0]'(by omega)) (ha.sub (List.getElem_mem _)) (by have := Ex'.nodesL_mem (List.getElem_mem (l := a.l) (n := 0) (by omega)); omega)
  rw [hs1]
  have hl0 : 0 < a.l.length := by omega
  simp only [Ex'.av_eq, Ex'.cs] at kx
  simp [e0, e3, e6, e7, e8, h17, hl0]
  refine GTK.callW (fun _ => ⟨kx, Dws.self (by simp)⟩) ?_
  cases hss : (a.l[0]).sums with
  | true => simp
  | false =>
    have hrp := hlast hl1
    subst hrp
    simp [e0, e3, e6, e7, e8]
    repeat (refine ⟨by grind, ?_⟩)
    by_cases d19 : a.op = 19
    · simp [e0, e3, e6, e7, e8, h17, f6, c6, c9, c12, c14, c17, d19]
      simp only [d19] at hp
      refine TS.callW (hp _ 1 ?_) (Dws.self (by simp)) ?_
      · simp [ofK]; congr 1; unfold numK; grind
      · simp
    by_cases d18 : a.op = 18
    · simp [e0, e3, e6, e7, e8, h17, f6, c6, c9, c12, c14, c17, d18]
      simp only [d18] at hp
      refine TS.callW (hp _ 1 ?_) (Dws.self (by simp)) ?_
      · simp [ofK]
      · simp
    simp [e0, e3, e6, e7, e8, h17, f6, c6, c9, c12, c14, c17, d18, d19]
    refine TS.callW (hp _ _ ?_) (Dws.self (by simp)) ?_
    · unfold ofK
      rw [if_neg c6, if_neg c9, if_neg (by omega), if_neg (by omega), if_neg (by omega), if_neg (by omega), if_neg (by omega), if_neg (by omega)]
    · simp
end Go.Proofs.Ytaahlhhpmooliaa.PL
