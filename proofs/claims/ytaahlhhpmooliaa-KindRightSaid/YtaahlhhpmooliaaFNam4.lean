/- Queries resolved. -/
import Derived.Test.YtaahlhhpmooliaaFNam3
namespace Go.Proofs.Ytaahlhhpmooliaa.PL
open Go.Proofs
set_option linter.unusedVariables false
set_option linter.unusedSimpArgs false
variable {ts : List Tab} {fs : List Frm}
def fromR (ts : List Tab) (fs : List Frm) (i : Nat) : Option Frm := match fs[i]? with
  | none => none
  | some f => if rightF ts fs i = false then none else if i = 0 then some f else (exprF ts fs (seenF fs i) f.on).map fun e => { f with on := e }
def fromsR (ts : List Tab) (fs : List Frm) : Nat → Option (List Frm)
  | 0 => some []
  | i + 1 => match fromsR ts fs i with
    | none => none
    | some m => (fromR ts fs i).map fun f => m ++ [f]
def whrR (ts : List Tab) (q : Qry) : Option Ex' := if q.whr.op = 0 then some q.whr else exprF ts q.frm (seenF q.frm q.frm.length) q.whr
def resolveF (ts : List Tab) (q : Qry) : Option Qry := match fromsR ts q.frm q.frm.length, whrR ts q, listF ts q.frm q.grp, listF ts q.frm q.sel with
  | some frm, some whr, some grp, some sel => some ⟨sel, frm, whr, grp⟩
  | _, _, _, _ => none
instance : Selfs Frm.av := ⟨fun a x h => by simp at h; rcases h with rfl | rfl | rfl | rfl | rfl | rfl | rfl | rfl | rfl | rfl | rfl | rfl <;> simp⟩
theorem S_cloneF (H : List HO) (l : List Frm) (hl : l.length ≤ 100000) (h : 0 < l.length) : TS Try.prog 71 [.sl .no (frms l)] H (pt (.mv H.length l.length 12 0 l.length) (H ++ [.row l.length 12 ((frms l).flatMap AV.cells)])) := by
  have hne : ¬ l = [] := by rintro rfl; simp at h
  refine (TS.bodyM [7] mix Try.func71 (by kernel_rfl) rfl (by kernel_rfl) (by simp) ?_)
  simp [hne, h]
  refine ⟨by simp [isSlT, un_24], by omega, by omega⟩
theorem S_cloneF0 (H : List HO) : TS Try.prog 71 [.sl .no []] H (pt (.sl .exact []) H) := by
  refine TS.exd (TS.bodyM [7] mix Try.func71 (by kernel_rfl) rfl (by kernel_rfl) (by simp) ?_)
  simp
  simp [isSlT, un_24]
def zQ : Qry := ⟨[], [], zE, []⟩
structure OkR (q : Qry) : Prop where
  len : q.frm.length ≤ 1000
  onk : ∀ f, f ∈ q.frm → OkE f.on ∧ f.on.nodes ≤ 1000000
  whr : OkE q.whr ∧ q.whr.nodes ≤ 1000000
  grp : (∀ x, x ∈ q.grp → OkE x) ∧ Ex'.nodesL q.grp ≤ 1000000
  sel : (∀ x, x ∈ q.sel → OkE x) ∧ Ex'.nodesL q.sel ≤ 1000000
/-- the Froms as they stand: the slice, the object behind it -/
def FrmAt (x : AV) (o : HO) (L : List Frm) : Prop := (L = [] ∧ x = .sl .exact [] ∧ o = .dead) ∨ (0 < L.length ∧ x = .mv 2 L.length 12 0 L.length ∧ o = .row L.length 12 ((frms L).flatMap AV.cells))
/-- the first i resolved, the others as they were -/
def midR (ts : List Tab) (fs : List Frm) (i : Nat) (m : List Frm) : List Frm := m ++ fs.drop i
abbrev rs0 (q : Qry) (x6 : AV) : List AV := [.sl .exact [], x6, .int .i64 q.whr.op, .str q.whr.tab, .str q.whr.name, .int .i64 q.whr.t, .int .i64 q.whr.c, .int .i64 q.whr.v.k, .int .i64 q.whr.v.i, .str q.whr.v.s, .sl .no (exprs q.whr.l), .sl .exact []]
theorem frz_zQ {H : List HO} {n : Int} : Frz H (.tup [.agg [.sl .exact [], .sl .exact [], .int .i64 0, .str ByteArray.empty, .str ByteArray.empty, .int .i64 0, .int .i64 0, .int .i64 0, .int .i64 0, .str ByteArray.empty, .sl .exact [], .sl .exact []], .int .i64 n]) (.tup [zQ.av, .int .i64 n]) := by
  refine .tup (.cons (.agg ?_) (.cons (.cl (by simp)) .nil))
  repeat (refine .cons (.cl (by simp [zQ, zE])) ?_)
  exact .nil
theorem fromsR_none {i : Nat} (h : fromR ts fs i = none) : ∀ {j : Nat}, i < j → fromsR ts fs j = none
  | j + 1, hj => by
    rw [fromsR]
    by_cases e : i = j
    · subst e
      rw [h]
      cases fromsR ts fs i <;> rfl
    · rw [fromsR_none h (by omega)]
theorem resolveF_none {q : Qry} {i : Nat} (hi : i < q.frm.length) (h : fromR ts q.frm i = none) : resolveF ts q = none := by
  simp [resolveF, fromsR_none h hi]
set_option maxRecDepth 100000 in
set_option maxHeartbeats 1000000 in
theorem T_resolve (hts : TsOk ts) (q : Qry) (hq : OkR q) : T Try.prog 14 [.sl .no (avs Tab.av ts), q.av] (.tup [((resolveF ts q).getD zQ).av, .int .i64 (if (resolveF ts q).isSome = true then 0 else 2)]) := by
  have hl := hq.len
  refine T.introF (TS.bodyM [300001, 5000102, 1010200, 1010201, 1010502, 1010700, 1010701, 1010702, 1010703, 1010704, 1010705, 1010706, 100009, 1091402, 1091404, 1091408] mix Try.func14 (by kernel_rfl) rfl (by kernel_rfl) (by simp) ?_)
  have start : ∀ (K : AV → List HO → Prop) (xs : List AV) (H : List HO), xs = [.sl .no (frms q.frm)] → H[2]? = some .dead → (∀ x o, FrmAt x o q.frm → K x (H.set 2 o)) → NWK Try.prog 71 xs 2 H K := by
    rintro K xs H rfl hd hk
    by_cases h0 : q.frm.length = 0
    · have hn : q.frm = [] := List.eq_nil_of_length_eq_zero h0
      rw [hn] at hk ⊢
      refine NWK.none (r := .sl .exact []) hd (fun H2 => S_cloneF0 H2) ?_
      have := hk (.sl .exact []) .dead (.inl ⟨rfl, rfl, rfl⟩)
      rwa [set_self' hd] at this
    · have hp : 0 < q.frm.length := by omega
      exact NWK.row (n := q.frm.length) (sz := 12) (cs := (frms q.frm).flatMap AV.cells) hd (fun k => lts_flat_plain k) (fun H2 => S_cloneF H2 q.frm (by omega) hp) (hk _ _ (.inr ⟨hp, rfl, rfl⟩))
  simp
  refine start _ _ _ rfl (by simp) fun x6 o2 hx => ?_
  have hok : x6.okc = true ∧ x6.cells = [x6] := by rcases hx with ⟨_, rfl, _⟩ | ⟨_, rfl, _⟩ <;> simp
  simp [hok.1, hok.2]
  refine vc_loop (fun i : Nat => q.frm.length - i) (fun i en H => ∃ (m : List Frm) (x6 : AV) (o2 : HO) (c4 : List AV) (J : List HO), en 0 = .sl .no (avs Tab.av ts) ∧ en 3 = .ptr 0 0 ∧ en 4 = .ptr 1 0 ∧ en 6 = .ptr 3 0 ∧ en 21 = .sl .no (frms q.frm) ∧ en 22 = .int .i64 q.frm.length ∧ en 23 = .int .i64 i ∧ i ≤ q.frm.length ∧ m.length = i ∧ fromsR ts q.frm i = some m ∧ FrmAt x6 o2 (m ++ q.frm.drop i) ∧ c4.length = 12 ∧ H = .box q.cs :: .box c4 :: o2 :: .box (rs0 q x6) :: J) 0 ?_ ?_
  · refine ⟨[], x6, o2, [.sl .exact [], .sl .exact [], .int .i64 0, .str ByteArray.empty, .str ByteArray.empty, .int .i64 0, .int .i64 0, .int .i64 0, .int .i64 0, .str ByteArray.empty, .sl .exact [], .sl .exact []], [], ?_⟩
    simp [fromsR]
    exact hx
  clear hok hx x6 o2
  rintro i en H ⟨m, x6, o2, c4, J, h0, h3, h4, h6, h21, h22, h23, hi, hm, hf, hx, hc4, rfl⟩
  by_cases hlt : i < q.frm.length
  · have kt := T_table (fs := q.frm) hts i hlt (by omega)
    have ew := wrap_next hlt (by omega)
    have e0 : q.frm[i]? = some q.frm[i] := List.getElem?_eq_getElem hlt
    have hnext : fromsR ts q.frm (i + 1) = (fromR ts q.frm i).map fun f => m ++ [f] := by rw [fromsR, hf]
    simp [h0, h3, h4, h6, h21, h22, h23, hlt]
    refine TS.callW kt (Dws.self (by simp)) ?_
    cases hr : rightF ts q.frm i with
    | false =>
      simp [h0, h3, h4, h6, h21, h22, h23, hlt]
      rw [resolveF_none hlt (by simp [fromR, e0, hr])]
      exact ⟨by omega, frz_zQ⟩
    | true =>
      by_cases hi0 : i = 0
      · subst hi0
        have hm0 := List.eq_nil_of_length_eq_zero hm
        subst hm0
        have hn1 : fromsR ts q.frm 1 = some [q.frm[0]] := by rw [hnext]; simp [fromR, e0, hr]
        simp [h0, h3, h4, h6, h21, h22, h23, hlt]
        refine ⟨1, by omega, rfl, by omega, [q.frm[0]], rfl, hn1, x6, o2, ?_, c4, hc4, rfl, rfl, rfl⟩
        rw [show [] ++ q.frm.drop 0 = [q.frm[0]] ++ q.frm.drop 1 by rw [List.drop_eq_getElem_cons hlt]; rfl] at hx
        exact hx
      · have ks := T_seen q.frm i (by omega)
        have hsl := seenF_len q.frm i
        have hon := hq.onk _ (List.getElem_mem hlt)
        have kx := T_nexpr (fs := q.frm) hts (seen := seenF q.frm i) (by omega) _ hon.1 hon.2
        simp only [Ex'.av_eq] at kx
        simp [h0, h3, h4, h6, h21, h22, h23, hlt, hi0]
        refine TDK.callW ks (Dws.self (by simp)) ?_
        simp [h0, h3, h4, h6, h21, h22, h23, hlt, hi0]
        refine TDK.callW kx (Dws.self (by simp)) ?_
        cases hy : exprF ts q.frm (seenF q.frm i) q.frm[i].on with
        | none =>
          simp [h0, h3, h4, h6, h21, h22, h23, hlt, hi0]
          rw [resolveF_none hlt (by simp [fromR, e0, hr, hi0, hy])]
          exact ⟨by omega, frz_zQ⟩
        | some y =>
          rcases hx with ⟨he, _, _⟩ | ⟨hp, rfl, rfl⟩
          · have := congrArg List.length he
            rw [List.length_append, List.length_drop] at this
            simp at this
            omega
          have hil : i < (m ++ q.frm.drop i).length := by simp; omega
          have hat : (m ++ q.frm.drop i)[i] = q.frm[i] := by
            rw [List.getElem_append_right (by omega)]
            simp [hm]
          have hput := flatA_put (f := Frm.av) (m ++ q.frm.drop i) hil (k := 3) (new := y.cs) (a := { q.frm[i] with on := y }) (by simp) (by rw [hat]; simp)
          have hset : (m ++ q.frm.drop i).set i { q.frm[i] with on := y } = (m ++ [{ q.frm[i] with on := y }]) ++ q.frm.drop (i + 1) := by
            rw [List.drop_eq_getElem_cons hlt, List.set_append, if_neg (by omega), hm, Nat.sub_self, List.set_cons_zero]
            simp
          rw [hset] at hput
          have hnx : fromsR ts q.frm (i + 1) = some (m ++ [{ q.frm[i] with on := y }]) := by rw [hnext]; simp [fromR, e0, hr, hi0, hy]
          have hll : (m ++ [{ q.frm[i] with on := y }] ++ q.frm.drop (i + 1)).length = m.length + (q.frm.length - i) := by simp; omega
          simp [h0, h3, h4, h6, h21, h22, h23, hlt, hi0]
          refine ⟨by omega, ?_, i + 1, by omega, ew, by omega, _, by simp [hm], hnx, _, _, .inr ⟨by simp; omega, ?_, ?_⟩, c4, hc4, rfl, rfl, rfl⟩
          · have := flatA_len (f := Frm.av) (sz := 12) (m ++ q.frm.drop i)
            rw [List.length_flatMap] at this
            rw [this]
            simp
            omega
          · rw [hll]
          · rw [hll, ← hput]
            simp
  · have hil : i = q.frm.length := by omega
    subst hil
    have kl := seenF_len q.frm q.frm.length
    have ks := T_seen q.frm q.frm.length (by omega)
    have kg := T_list (fs := q.frm) hts (by omega) q.grp hq.grp.1 hq.grp.2
    have ke := T_list (fs := q.frm) hts (by omega) q.sel hq.sel.1 hq.sel.2
    have kx := T_nexpr (fs := q.frm) hts (seen := seenF q.frm q.frm.length) (by omega) _ hq.whr.1 hq.whr.2
    simp only [Ex'.av_eq] at kx
    simp [h0, h3, h4, h6, h21, h22, h23]
    have hfx : ∀ {H : List HO}, H[2]? = some o2 → Frz H x6 (.sl .no (frms m)) := by
      intro H hH
      rw [List.drop_length, List.append_nil] at hx
      rcases hx with ⟨rfl, rfl, rfl⟩ | ⟨hp, rfl, rfl⟩
      · exact Frz.slN (f := Frm.av) (l := [])
      · exact Frz.mvA hH rfl
    have hw : whrR ts q = none ∨ ∃ w, whrR ts q = some w := by cases whrR ts q <;> simp
    rcases hw with hw | ⟨w, hw⟩
    · have hop : ¬ q.whr.op = 0 := fun h => by simp [whrR, h] at hw
      have hy : exprF ts q.frm (seenF q.frm q.frm.length) q.whr = none := by simpa [whrR, hop] using hw
      rw [hy] at kx
      simp [hop, h0, h3, h4, h6, h21, h22, h23]
      refine TDK.callW ks (Dws.self (by simp)) ?_
      simp [h0, h3, h4, h6, h21, h22, h23]
      refine TDK.callW kx (Dws.self (by simp)) ?_
      simp [h0, h3, h4, h6, h21, h22, h23]
      rw [show resolveF ts q = none by simp [resolveF, hf, hw]]
      exact ⟨by omega, frz_zQ⟩
    by_cases hop : q.whr.op = 0
    · obtain rfl : q.whr = w := by simpa [whrR, hop] using hw
      simp [hop, h0, h3, h4, h6, h21, h22, h23]
      refine TS.callW kg (Dws.self (by simp)) ?_
      cases hg : listF ts q.frm q.grp with
      | none =>
        simp [h0, h3, h4, h6, h21, h22, h23]
        rw [show resolveF ts q = none by simp [resolveF, hf, hw, hg]]
        exact ⟨by omega, frz_zQ⟩
      | some g =>
        simp [h0, h3, h4, h6, h21, h22, h23]
        refine TS.callW ke (Dws.self (by simp)) ?_
        cases he : listF ts q.frm q.sel with
        | none =>
          simp [h0, h3, h4, h6, h21, h22, h23]
          rw [show resolveF ts q = none by simp [resolveF, hf, hw, hg, he]]
          exact ⟨by omega, frz_zQ⟩
        | some l =>
          simp [h0, h3, h4, h6, h21, h22, h23]
          rw [show resolveF ts q = some ⟨l, m, q.whr, g⟩ by simp [resolveF, hf, hw, hg, he]]
          refine ⟨by omega, .tup (.cons (.agg (.cons Frz.slN (.cons (hfx rfl) ?_))) (.cons (.cl (by simp)) .nil))⟩
          repeat (first | exact .nil | refine .cons (.cl (by simp)) ?_ | refine .cons Frz.slN ?_)
    · have hy : exprF ts q.frm (seenF q.frm q.frm.length) q.whr = some w := by simpa [whrR, hop] using hw
      rw [hy] at kx
      simp [hop, h0, h3, h4, h6, h21, h22, h23]
      refine TDK.callW ks (Dws.self (by simp)) ?_
      simp [h0, h3, h4, h6, h21, h22, h23]
      refine TDK.callW kx (Dws.self (by simp)) ?_
      simp [h0, h3, h4, h6, h21, h22, h23]
      refine TS.callW kg (Dws.self (by simp)) ?_
      cases hg : listF ts q.frm q.grp with
      | none =>
        simp [h0, h3, h4, h6, h21, h22, h23]
        rw [show resolveF ts q = none by simp [resolveF, hf, hw, hg]]
        exact ⟨by omega, frz_zQ⟩
      | some g =>
        simp [h0, h3, h4, h6, h21, h22, h23]
        refine TS.callW ke (Dws.self (by simp)) ?_
        cases he : listF ts q.frm q.sel with
        | none =>
          simp [h0, h3, h4, h6, h21, h22, h23]
          rw [show resolveF ts q = none by simp [resolveF, hf, hw, hg, he]]
          exact ⟨by omega, frz_zQ⟩
        | some l =>
          simp [h0, h3, h4, h6, h21, h22, h23]
          rw [show resolveF ts q = some ⟨l, m, w, g⟩ by simp [resolveF, hf, hw, hg, he]]
          refine ⟨by omega, .tup (.cons (.agg (.cons Frz.slN (.cons (hfx rfl) ?_))) (.cons (.cl (by simp)) .nil))⟩
          repeat (first | exact .nil | refine .cons (.cl (by simp)) ?_ | refine .cons Frz.slN ?_)
end Go.Proofs.Ytaahlhhpmooliaa.PL
