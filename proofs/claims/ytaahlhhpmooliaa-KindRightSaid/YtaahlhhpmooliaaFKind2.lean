/- Kinds of expressions: the whole. -/
import Derived.Test.YtaahlhhpmooliaaFKind
namespace Go.Proofs.Ytaahlhhpmooliaa.PL
open Go.Proofs
set_option linter.unusedVariables false
set_option linter.unusedSimpArgs false
variable {ts : List Tab}
structure TsK (ts : List Tab) : Prop where
  len : ts.length ≤ 1000000
  cols : ∀ t, t ∈ ts → t.cols.length < 4611686018427387904
abbrev kRes (o : Option Int) : AV := .tup [.int .i64 (o.getD 0), .int .i64 (if o.isSome = true then 0 else 3)]
theorem T_parts (a : Ex') (hn : a.l.length ≤ 1000000) (ih : ∀ x, x ∈ a.l → T Try.prog 80 [.sl .no (avs Tab.av ts), x.av] (kRes (kindE ts x))) : T Try.prog 135 [.sl .no (avs Tab.av ts), a.av] (.tup [.sl .no (ints' ((kindL ts a.l).getD [])), .int .i64 (if (kindL ts a.l).isSome = true then 0 else 3)]) := by
  refine T.introF (TS.body mix Try.func135 (by kernel_rfl) rfl (by kernel_rfl) (by simp) ?_)
  simp
  refine vc_loop (fun i : Nat => a.l.length - i) (fun i en H => ∃ (M : List Int) (x : AV), en 0 = .sl .no (avs Tab.av ts) ∧ en 6 = x ∧ en 12 = .sl .no (exprs a.l) ∧ en 13 = .int .i64 a.l.length ∧ en 14 = .int .i64 i ∧ i ≤ a.l.length ∧ M.length = i ∧ kindL ts (a.l.take i) = some M ∧ Grow1 1 H x (ints' M)) 0 ?_ ?_
  · refine ⟨[], .sl .nil [], ?_⟩
    simp [kindL, Grow1]
  rintro i en H ⟨M, x, h0, h6, h12, h13, h14, hi, hM, hx, hg⟩
  by_cases hlt : i < a.l.length
  · have hc := ih _ (List.getElem_mem hlt)
    have ew := wrap_next hlt (by omega)
    have es := kindL_snoc (ts := ts) (a.l.take i) a.l[i]
    rw [← take_next hlt, hx] at es
    have en0 := kindL_none (ts := ts) hlt
    simp only [Ex'.av_eq] at hc
    simp [h0, h6, h12, h13, h14, hlt]
    refine TS.callW hc (Dws.self (by simp)) ?_
    cases hy : kindE ts a.l[i] with
    | none =>
      rw [en0 hy]
      simp [h0, h6, h12, h13, h14, hlt]
      exact .tup (.cons (Frz.slN (f := AV.int .i64) (l := [])) (.cons (.cl (by simp)) .nil))
    | some y =>
      rw [hy] at es
      simp only [Option.map_some] at es
      rcases hg with ⟨ge, rfl⟩ | ⟨t, rfl, ht⟩
      · rw [avs_eq_nil] at ge
        subst ge
        simp [h0, h6, h12, h13, h14, hlt]
        refine ⟨i + 1, by omega, ew, by omega, [y], by simp at hM; simp; omega, es, .inr ⟨H.length + 1, rfl, by simp⟩⟩
      · have htl := (List.getElem?_eq_some_iff.1 ht).1
        have ht' : ∀ Y : List HO, (H ++ Y)[t]? = some (.spare M.length 1) := fun Y => by rw [List.getElem?_append_left htl]; simpa using ht
        simp [h0, h6, h12, h13, h14, hlt, ht']
        refine ⟨⟨by omega, by omega⟩, i + 1, by omega, ew, by omega, M ++ [y], by simp; omega, es, .inr ⟨t, by simp [avs], ?_⟩⟩
        rw [List.getElem?_set_self (by simp; omega)]
        simp
  · have hil : i = a.l.length := by omega
    subst hil
    rw [List.take_length] at hx
    rw [hx]
    obtain ⟨own, rfl⟩ := hg.own
    simp [h0, h6, h12, h13, h14]
    exact .tup (.cons Frz.slN (.cons (.cl (by simp)) .nil))
set_option maxRecDepth 100000 in
theorem T_kOf (hts : TsK ts) (e : Ex') : OkE e → e.nodes ≤ 1000000 → T Try.prog 80 [.sl .no (avs Tab.av ts), e.av] (kRes (kindE ts e)) := by
  induction e using Ex'.ind with
  | h a ih =>
  intro ha hn
  have hts1 := hts.len
  have hal := Ex'.len_le a.l
  rw [Ex'.nodes_eq] at hn
  have kp := T_parts (ts := ts) a (by omega) fun x hx => ih x hx (ha.sub hx) (by have := Ex'.nodesL_mem hx; omega)
  have kl := T_leaf (ts := ts) a (by omega) hts.cols
  have ka := T_args a.op
  have ks := T_anyE 131 a.l Ex'.sums ha.len fun x hx => T_sums x (ha.sub hx)
  refine T.intro (TS.body mix Try.func80 (by kernel_rfl) rfl (by kernel_rfl) (by simp) ?_)
  rw [kindE_eq]
  simp only [Ex'.av_eq, Ex'.cs] at kl kp
  by_cases h1 : a.op < 1
  · have h1' : a.op ≤ 0 := by omega
    simp [h1, h1']
    refine GTK.callW (fun h => nomatch h) (ys := []) (r := .bool true) ?_
    simp
  have h1' : ¬ a.op ≤ 0 := by omega
  by_cases h2 : 21 < a.op
  · simp [h1, h1', h2]
    refine GTK.callW (fun h => nomatch h) (ys := []) (r := .bool true) ?_
    simp
  by_cases h3 : (a.l.length : Int) = argsE a.op
  case neg =>
    simp [h1, h1', h2, h3]
    refine GTK.callW (fun _ => ⟨ka, Dws.self (by simp)⟩) ?_
    simp [h3]
  have hno : ¬ (a.op < 1 ∨ 21 < a.op ∨ ¬ (a.l.length : Int) = argsE a.op) := by omega
  rw [if_neg hno]
  by_cases h4 : a.op = 15 ∨ a.op = 16
  · rcases h4 with h4 | h4
    · have h6 : ¬ a.op = 16 := by omega
      rw [if_neg h6, if_pos h4]
      rw [if_neg h6] at kl
      simp [h1, h1', h2]
      refine GTK.callW (fun _ => ⟨ka, Dws.self (by simp)⟩) ?_
      simp [h3, h4]
      simp [h4] at kl
      refine TS.callW kl (Dws.self (by simp)) ?_
      simp
    · rw [if_pos h4]
      rw [if_pos h4] at kl
      simp [h1, h1', h2]
      refine GTK.callW (fun _ => ⟨ka, Dws.self (by simp)⟩) ?_
      simp [h3, h4]
      simp [h4] at kl
      refine TS.callW kl (Dws.self (by simp)) ?_
      simp
  have h5 : ¬ a.op = 15 := fun h => h4 (.inl h)
  have h6 : ¬ a.op = 16 := fun h => h4 (.inr h)
  rw [if_neg h6, if_neg h5]
  simp [h1, h1', h2]
  refine GTK.callW (fun _ => ⟨ka, Dws.self (by simp)⟩) ?_
  simp [h3, h5, h6]
  refine TS.callW kp (Dws.self (by simp)) ?_
  cases hk : kindL ts a.l with
  | none => simp
  | some m =>
    have hm := kindL_len hk
    obtain ⟨v, kv, hv⟩ := T_kof (op := a.op) (ks := m) h5 h6 (by rw [hm]; exact hno)
    have e1 : m.headD 0 = m.head?.getD 0 := by simp
    have e2 : m.getLastD 0 = m.getLast?.getD 0 := by simp
    rw [e1, e2] at kv hv
    rw [sumsL_any]
    dsimp only
    generalize ofK a.op (m.head?.getD 0) (m.getLast?.getD 0) = o at *
    simp
    refine TS.callW kv (Dws.self (by simp)) ?_
    cases o with
    | none =>
      simp
      refine GTK.callW (fun h => nomatch h) (ys := []) (r := .bool true) ?_
      simp
    | some k =>
      have := hv k rfl
      subst this
      by_cases h7 : 17 ≤ a.op
      · cases hq : a.l.any Ex'.sums
        · rw [hq] at ks
          have hq2 : ¬ ∃ x, x ∈ a.l ∧ x.sums = true := by simpa using hq
          simp [h7, hq2]
          refine GTK.callW (fun _ => ⟨ks, Dws.self (by simp)⟩) ?_
          simp [h7]
        · rw [hq] at ks
          have hq2 : ∃ x, x ∈ a.l ∧ x.sums = true := by simpa using hq
          simp [h7, hq2]
          refine GTK.callW (fun _ => ⟨ks, Dws.self (by simp)⟩) ?_
          simp [h7]
      · simp [h7]
        refine GTK.callW (fun h => nomatch h) (ys := []) (r := .bool true) ?_
        simp [h7]
end Go.Proofs.Ytaahlhhpmooliaa.PL
