/- The reference's queries resolved; the statements. -/
import Derived.Test.YtaahlhhpmooliaaFNam4
namespace Go.Proofs.Ytaahlhhpmooliaa.PL
open Go.Proofs
set_option linter.unusedVariables false
set_option linter.unusedSimpArgs false
variable {ts : List Tab} {fs : List Frm}
theorem resolveF_none2 {q : Qry} {i : Nat} (hi : i < q.frm.length) (h : fromR ts q.frm i = none) : resolveF ts q = none := by
  simp [resolveF, fromsR_none h hi]
def GrowE2 (k sz : Nat) (J : List HO) (x : AV) (xs : List AV) : Prop := (xs = [] ∧ x = .sl .exact []) ∨ ∃ t, x = .sl (.tok (t + k)) xs ∧ J[t]? = some (.spare xs.length sz)
theorem GrowE2.own {k sz : Nat} {J : List HO} {x : AV} {xs : List AV} (h : GrowE2 k sz J x xs) : ∃ own, x = .sl own xs := by
  rcases h with ⟨rfl, h⟩ | ⟨t, h, _⟩
  · exact ⟨_, h⟩
  · exact ⟨_, h⟩
theorem GrowE2.more {α : Type} {f : α → AV} {l : List α} {a : α} {q sz t n : Nat} {J : List HO} (ht : J[t]? = some (.spare (avs f l).length sz)) (hn : n = l.length + 1) : GrowE2 q sz (J.set t (.spare n sz)) (.sl (.tok (t + q)) (avs f (l ++ [a]))) (avs f (l ++ [a])) :=
  .inr ⟨t, rfl, by rw [List.getElem?_set_self (List.getElem?_eq_some_iff.1 ht).1]; simp [hn]⟩
set_option maxRecDepth 100000 in
set_option maxHeartbeats 1000000 in
theorem T_rresolve (hts : TsOk ts) (q : Qry) (hq : OkR q) : T Try.prog 15 [.sl .no (avs Tab.av ts), q.av] (.tup [((resolveF ts q).getD zQ).av, .int .i64 (if (resolveF ts q).isSome = true then 0 else 2)]) := by
  have hl := hq.len
  refine T.introF (TS.bodyM [100009, 1091402, 1091404, 1091408] mix Try.func15 (by kernel_rfl) rfl (by kernel_rfl) (by simp) ?_)
  simp
  refine vc_loop (fun i : Nat => q.frm.length - i) (fun i en H => ∃ (m : List Frm) (x : AV) (c4 : List AV) (J : List HO), en 0 = .sl .no (avs Tab.av ts) ∧ en 3 = .ptr 0 0 ∧ en 4 = .ptr 1 0 ∧ en 6 = .ptr 2 0 ∧ en 7 = .int .i64 i ∧ i ≤ q.frm.length ∧ m.length = i ∧ fromsR ts q.frm i = some m ∧ GrowE2 3 12 J x (frms m) ∧ c4.length = 12 ∧ H = .box q.cs :: .box c4 :: .box (rs0 q x) :: J) 0 ?_ ?_
  · refine ⟨[], .sl .exact [], [.sl .exact [], .sl .exact [], .int .i64 0, .str ByteArray.empty, .str ByteArray.empty, .int .i64 0, .int .i64 0, .int .i64 0, .int .i64 0, .str ByteArray.empty, .sl .exact [], .sl .exact []], [], ?_⟩
    simp [fromsR, GrowE2]
  rintro i en H ⟨m, x, c4, J, h0, h3, h4, h6, h7, hi, hm, hf, hx, hc4, rfl⟩
  by_cases hlt : i < q.frm.length
  · have kt := T_rright11 (fs := q.frm) hts i hlt (by omega)
    have ew := wrap_next hlt (by omega)
    have e0 : q.frm[i]? = some q.frm[i] := List.getElem?_eq_getElem hlt
    have hnext : fromsR ts q.frm (i + 1) = (fromR ts q.frm i).map fun f => m ++ [f] := by rw [fromsR, hf]
    simp [h0, h3, h4, h6, h7, hlt]
    refine TS.callW kt (Dws.self (by simp)) ?_
    cases hr : rightF ts q.frm i with
    | false =>
      simp [h0, h3, h4, h6, h7, hlt]
      rw [resolveF_none hlt (by simp [fromR, e0, hr])]
      exact ⟨by omega, frz_zQ⟩
    | true =>
      by_cases hi0 : i = 0
      · subst hi0
        have hm0 := List.eq_nil_of_length_eq_zero hm
        subst hm0
        have hn1 : fromsR ts q.frm 1 = some [q.frm[0]] := by rw [hnext]; simp [fromR, e0, hr]
        rcases hx with ⟨_, rfl⟩ | ⟨t, rfl, ht⟩
        · simp [h0, h3, h4, h6, h7, hlt]
          refine ⟨1, by omega, rfl, by omega, [q.frm[0]], rfl, hn1, _, c4, _, .inr ⟨J.length + 1, rfl, ?_⟩, hc4, rfl, rfl, rfl⟩
          simp
        · have htl := (List.getElem?_eq_some_iff.1 ht).1
          have ht' : ∀ Y : List HO, (J ++ Y)[t]? = some (.spare 0 12) := fun Y => by rw [List.getElem?_append_left htl]; simpa using ht
          simp [h0, h3, h4, h6, h7, hlt, ht']
          refine ⟨1, by omega, rfl, by omega, [q.frm[0]], rfl, hn1, _, c4, _, .inr ⟨t, rfl, ?_⟩, hc4, rfl, rfl, rfl⟩
          rw [List.getElem?_set_self (by simp; omega)]
          simp
      · have ks := T_rseen q.frm i (by omega)
        have hsl := seenF_len q.frm i
        have hon := hq.onk _ (List.getElem_mem hlt)
        have kx := T_rexpr (fs := q.frm) hts (seen := seenF q.frm i) (by omega) _ hon.1 hon.2
        simp only [Ex'.av_eq] at kx
        have hpos : 0 < i := by omega
        simp [h0, h3, h4, h6, h7, hlt, hpos]
        refine TDK.callW ks (Dws.self (by simp)) ?_
        simp [h0, h3, h4, h6, h7, hlt, hpos]
        refine TDK.callW kx (Dws.self (by simp)) ?_
        cases hy : exprF ts q.frm (seenF q.frm i) q.frm[i].on with
        | none =>
          simp [h0, h3, h4, h6, h7, hlt, hpos]
          rw [resolveF_none hlt (by simp [fromR, e0, hr, hi0, hy])]
          exact ⟨hc4 ▸ Nat.le_refl _, frz_zQ⟩
        | some y =>
          have hnx : fromsR ts q.frm (i + 1) = some (m ++ [{ q.frm[i] with on := y }]) := by rw [hnext]; simp [fromR, e0, hr, hi0, hy]
          rcases hx with ⟨he, _⟩ | ⟨t, rfl, ht⟩
          · rw [avs_eq_nil] at he
            subst he
            simp at hm
            omega
          have htl := (List.getElem?_eq_some_iff.1 ht).1
          have ht' : ∀ Y : List HO, (J ++ Y)[t]? = some (.spare m.length 12) := fun Y => by rw [List.getElem?_append_left htl]; simpa using ht
          have e1 : frms (m ++ [{ q.frm[i] with on := y }]) = frms m ++ [.agg [.int .i64 q.frm[i].kind, .str q.frm[i].tab, .str q.frm[i].al, .int .i64 y.op, .str y.tab, .str y.name, .int .i64 y.t, .int .i64 y.c, .int .i64 y.v.k, .int .i64 y.v.i, .str y.v.s, .sl .no (avs Ex'.av y.l)]] := by simp [avs]
          simp [h0, h3, h4, h6, h7, hlt, hpos, ht']
          refine ⟨⟨by omega, by omega⟩, i + 1, by omega, ew, by omega, _, by simp [hm], hnx, _, c4, _, .inr ⟨t, by rw [e1], ?_⟩, hc4, rfl, rfl, rfl⟩
          rw [List.getElem?_set_self (by simp; omega), e1]
          simp
  · have hil : i = q.frm.length := by omega
    subst hil
    have kg := T_all11 (fs := q.frm) hts (by omega) q.grp hq.grp.1 hq.grp.2
    have ke := T_all11 (fs := q.frm) hts (by omega) q.sel hq.sel.1 hq.sel.2
    have kw := T_all11 (fs := q.frm) hts (by omega) [q.whr] (by simp [hq.whr.1]) (by simp [Ex'.nodesL, hq.whr.2])
    obtain ⟨own, rfl⟩ := hx.own
    have hw : whrR ts q = none ∨ ∃ w, whrR ts q = some w := by cases whrR ts q <;> simp
    rcases hw with hw | ⟨w, hw⟩
    · have hop : ¬ q.whr.op = 0 := fun h => by simp [whrR, h] at hw
      have hy : exprF ts q.frm (seenF q.frm q.frm.length) q.whr = none := by simpa [whrR, hop] using hw
      have hy2 : listF ts q.frm [q.whr] = none := by simp [listF, exprFL, hy]
      rw [hy2] at kw
      simp [hop, h0, h3, h4, h6, h7]
      refine TS.callW kw (.cons (.self (by simp)) (.cons (.self (by simp)) (.cons (by simp; repeat (first | exact .self (by simp [AV.pl, AV.pls]) | exact .nil | constructor)) .nil))) ?_
      simp [h0, h3, h4, h6, h7]
      rw [show resolveF ts q = none by simp [resolveF, hf, hw]]
      exact ⟨by omega, frz_zQ⟩
    by_cases hop : q.whr.op = 0
    · obtain rfl : q.whr = w := by simpa [whrR, hop] using hw
      simp [hop, h0, h3, h4, h6, h7]
      refine TS.callW kg (Dws.self (by simp)) ?_
      cases hg : listF ts q.frm q.grp with
      | none =>
        simp [h0, h3, h4, h6, h7]
        rw [show resolveF ts q = none by simp [resolveF, hf, hw, hg]]
        exact ⟨by omega, frz_zQ⟩
      | some g =>
        simp [h0, h3, h4, h6, h7]
        refine TS.callW ke (Dws.self (by simp)) ?_
        cases he : listF ts q.frm q.sel with
        | none =>
          simp [h0, h3, h4, h6, h7]
          rw [show resolveF ts q = none by simp [resolveF, hf, hw, hg, he]]
          exact ⟨by omega, frz_zQ⟩
        | some l =>
          simp [h0, h3, h4, h6, h7]
          rw [show resolveF ts q = some ⟨l, m, q.whr, g⟩ by simp [resolveF, hf, hw, hg, he]]
          refine ⟨by omega, .tup (.cons (.agg (.cons Frz.slN (.cons Frz.slN ?_))) (.cons (.cl (by simp)) .nil))⟩
          repeat (first | exact .nil | refine .cons (.cl (by simp)) ?_ | refine .cons Frz.slN ?_)
    · have hy : exprF ts q.frm (seenF q.frm q.frm.length) q.whr = some w := by simpa [whrR, hop] using hw
      have hy2 : listF ts q.frm [q.whr] = some [w] := by simp [listF, exprFL, hy]
      rw [hy2] at kw
      simp [hop, h0, h3, h4, h6, h7]
      refine TS.callW kw (.cons (.self (by simp)) (.cons (.self (by simp)) (.cons (by simp; repeat (first | exact .self (by simp [AV.pl, AV.pls]) | exact .nil | constructor)) .nil))) ?_
      simp [h0, h3, h4, h6, h7]
      refine TS.callW kg (Dws.self (by simp)) ?_
      cases hg : listF ts q.frm q.grp with
      | none =>
        simp [h0, h3, h4, h6, h7]
        rw [show resolveF ts q = none by simp [resolveF, hf, hw, hg]]
        exact ⟨by omega, frz_zQ⟩
      | some g =>
        simp [h0, h3, h4, h6, h7]
        refine TS.callW ke (Dws.self (by simp)) ?_
        cases he : listF ts q.frm q.sel with
        | none =>
          simp [h0, h3, h4, h6, h7]
          rw [show resolveF ts q = none by simp [resolveF, hf, hw, hg, he]]
          exact ⟨by omega, frz_zQ⟩
        | some l =>
          simp [h0, h3, h4, h6, h7]
          rw [show resolveF ts q = some ⟨l, m, w, g⟩ by simp [resolveF, hf, hw, hg, he]]
          refine ⟨by omega, .tup (.cons (.agg (.cons Frz.slN (.cons Frz.slN ?_))) (.cons (.cl (by simp)) .nil))⟩
          repeat (first | exact .nil | refine .cons (.cl (by simp)) ?_ | refine .cons Frz.slN ?_)
end Go.Proofs.Ytaahlhhpmooliaa.PL
