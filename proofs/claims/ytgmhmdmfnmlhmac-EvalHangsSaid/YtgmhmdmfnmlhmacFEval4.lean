/- The law of worth that hangs on the columns alone. -/
import Derived.Test.YtgmhmdmfnmlhmacFEval3
namespace Go.Proofs.Ytgmhmdmfnmlhmac.PL
open Go.Proofs
set_option linter.unusedVariables false
set_option linter.unusedSimpArgs false
instance : Selfs Val.av := ⟨fun a x h => by simp at h; rcases h with rfl | rfl | rfl <;> simp⟩
abbrev oRow : Own × List Val → AV := oslA Val.av
theorem rows_osl (rs : List (List Val)) : rows' rs = avs oRow (rs.map fun r => (Own.no, r)) := by simp [avs, oslA]
theorem S_cloneRM (H : List HO) (l : List (List Val)) (hl : l.length ≤ 1000) : TS Try.prog 99 [.sl .no (rows' l)] H (fun r H' => (l = [] ∧ r = .sl .exact [] ∧ H' = H) ∨ (0 < l.length ∧ r = .mv H.length l.length 1 0 l.length ∧ H' = H ++ [.row l.length 1 (rows' l)])) := by
  refine TS.exd (TS.bodyM [7] mix Try.func99 (by kernel_rfl) rfl (by kernel_rfl) (by simp) ?_)
  simp
  refine ⟨by simp [isSlT, un_44], ?_⟩
  by_cases h : l = []
  · subst h
    simp
  · have : 0 < l.length := List.length_pos_iff.2 h
    simp [h]
    omega
def padR (rs : List (List Val)) (k : Nat) : List (List Val) := rs ++ List.replicate k []
def withR (rs : List (List Val)) (n : Int) (r : List Val) : List (List Val) := if n < 0 ∨ 63 < n then rs else (padR rs (n.toNat + 1 - rs.length)).set n.toNat r
def padO (rs : List (List Val)) (k : Nat) : List (Own × List Val) := rs.map (fun r => (Own.no, r)) ++ List.replicate k (Own.nil, [])
theorem padO_snd (rs : List (List Val)) (k : Nat) : (padO rs k).map Prod.snd = padR rs k := by simp [padO, padR, Function.comp_def]
theorem padO_len (rs : List (List Val)) (k : Nat) : (padO rs k).length = rs.length + k := by simp [padO]
set_option maxRecDepth 10000 in
theorem T_with (rs : List (List Val)) (n : Int) (r : List Val) (hl : rs.length ≤ 100) : T Try.prog 46 [.sl .no (rows' rs), .int .i64 n, .sl .no (vals' r)] (.sl .no (rows' (withR rs n r))) := by
  refine T.introF (TS.bodyM [23] mix Try.func46 (by kernel_rfl) rfl (by kernel_rfl) (by simp) ?_)
  simp
  refine (S_cloneRM [] rs (by omega)).mono ?_
  by_cases hn : n < 0 ∨ 63 < n
  · have hg : (decide (n < 0) || decide (63 < n)) = true := by simpa using hn
    rw [withR, if_pos hn]
    rintro x H' (⟨rfl, rfl, rfl⟩ | ⟨h0, rfl, rfl⟩)
    · simp [hg]
      exact Frz.slN (f := fun r => AV.sl .no (vals' r)) (l := [])
    · simp [hg]
      refine Frz.mvosl (l := rs.map fun r => (Own.no, r)) ?_ (by simp) (by simp [Function.comp_def])
      rw [rows_osl]
      rfl
  · have hg : (decide (n < 0) || decide (63 < n)) = false := by simp; omega
    rw [withR, if_neg hn]
    obtain ⟨m, rfl⟩ : ∃ m : Nat, n = m := ⟨n.toNat, by omega⟩
    simp only [Int.toNat_natCast]
    have hm : m ≤ 63 := by omega
    intro x H' hx
    have hx' : (rs = [] ∧ x = .sl .exact [] ∧ H' = []) ∨ (0 < rs.length ∧ x = .mv 0 rs.length 1 0 rs.length ∧ H' = [.row rs.length 1 (avs oRow (padO rs 0))]) := by
      rw [rows_osl] at hx
      simpa [padO] using hx
    clear hx
    simp [hg]
    refine vc_loop (fun N : Nat => m + 1 - N) (fun N e H => e 1 = .int .i64 m ∧ e 2 = .sl .no (vals' r) ∧ rs.length ≤ N ∧ (N = rs.length ∨ N ≤ m + 1) ∧ ((N = 0 ∧ e 7 = .sl .exact [] ∧ H = []) ∨ (0 < N ∧ e 7 = .mv 0 N 1 0 N ∧ H = [.row N 1 (avs oRow (padO rs (N - rs.length)))]))) rs.length ?_ ?_
    · simp
      rcases hx' with ⟨rfl, rfl, rfl⟩ | ⟨h0, rfl, rfl⟩
      · simp
      · simp [h0]
    clear hx'
    rintro N e H ⟨h1, h2, hN, hk, hx⟩
    have enext : avs oRow (padO rs (N + 1 - rs.length)) = avs oRow (padO rs (N - rs.length)) ++ [.sl .nil []] := by
      rw [show N + 1 - rs.length = (N - rs.length) + 1 by omega, padO, padO, List.replicate_succ', ← List.append_assoc, ← avs_append]
      rfl
    have elen : (avs oRow (padO rs (N - rs.length))).length = N := by rw [avs_length, padO_len]; omega
    by_cases hlt : N ≤ m
    · rcases hx with ⟨h0, h7, rfl⟩ | ⟨h0, h7, rfl⟩
      · have hr0 : rs = [] := List.eq_nil_of_length_eq_zero (by omega)
        subst h0; subst hr0
        simp [h1, h2, h7]
        exact ⟨1, by omega, by omega, by omega, rfl, rfl⟩
      · simp [h1, h2, h7, hlt]
        exact ⟨⟨by omega, by omega⟩, N + 1, by omega, by omega, by omega, by omega, rfl, enext.symm⟩
    · rcases hx with ⟨h0, h7, rfl⟩ | ⟨h0, h7, rfl⟩
      · omega
      · have hmk : m < N := by omega
        have ek : N - rs.length = m + 1 - rs.length := by omega
        simp [h1, h2, h7, hlt, hmk]
        rw [ek] at elen ⊢
        rw [avs_length] at elen
        refine ⟨by omega, Frz.mvosl (l := (padO rs (m + 1 - rs.length)).set m (Own.no, r)) ?_ (by simp; omega) (by rw [List.map_set, padO_snd])⟩
        rw [List.set_eq_take_append_cons_drop, if_pos (by omega), ← avs_append]
        rfl
theorem T_same04' (r : List Val) (hl : r.length < 4611686018427387904) : T Try.prog 47 [rowA r, rowA r] (.bool true) := by
  refine T.intro (TS.body mix Try.func47 (by kernel_rfl) rfl (by kernel_rfl) (by simp) ?_)
  simp
  refine vc_loop (fun i : Nat => r.length - i) (fun i e H => e 0 = rowA r ∧ e 1 = rowA r ∧ e 5 = .int .i64 i ∧ i ≤ r.length) 0 ?_ ?_
  · simp
  rintro i e H ⟨h0, h1, h5, hi⟩
  by_cases h : i < r.length
  · have ew := wrap_next h (by omega)
    simp [h0, h1, h5, h]
    refine TDK.call' (T_rsame r[i] r[i]) (by simp) ?_
    simp [h0, h1, h5, h]
    exact ⟨i + 1, by omega, ew, by omega⟩
  · have : i = r.length := by omega
    subst this
    simp [h0, h1, h5]
theorem eval_hangs {r1 r2 : List (List Val)} (e : Ex') : (∀ x, x ∈ e.cols → atV r1 x.t x.c = atV r2 x.t x.c) → evalV r1 e = evalV r2 e := by
  induction e using Ex'.ind with
  | h e ih =>
  intro h
  rw [evalV_eq, evalV_eq]
  rw [Ex'.cols_eq] at h
  by_cases k : e.op = 15
  · rw [if_pos k, if_pos k]
    rw [if_pos k] at h
    rw [h e (by simp)]
  · rw [if_neg k, if_neg k]
    rw [if_neg k] at h
    have hm : e.l.map (evalV r1) = e.l.map (evalV r2) := by
      apply List.map_congr_left
      intro x hx
      refine ih x hx fun y hy => h y ?_
      clear ih h k
      have : ∀ l : List Ex', x ∈ l → y ∈ Ex'.colsL l := by
        intro l
        induction l with
        | nil => intro h; cases h
        | cons z l ihl =>
          intro h
          simp only [Ex'.colsL, List.mem_append]
          rcases List.mem_cons.1 h with rfl | h
          · exact .inl hy
          · exact .inr (ihl h)
      exact this _ hx
    rw [hm]
theorem truth_hangs {r1 r2 : List (List Val)} (e : Ex') : (∀ x, x ∈ e.cols → atV r1 x.t x.c = atV r2 x.t x.c) → truthV r1 e = truthV r2 e := by
  induction e using Ex'.ind with
  | h e ih =>
  intro h
  rw [truthV_eq, truthV_eq]
  rw [Ex'.cols_eq] at h
  by_cases k : e.op = 15
  · have a0 : argsE e.op = 0 := by rw [k]; rfl
    simp [k]
  · rw [if_neg k] at h
    have hsub : ∀ x, x ∈ e.l → ∀ y, y ∈ x.cols → y ∈ Ex'.colsL e.l := by
      intro x hx y hy
      have : ∀ l : List Ex', x ∈ l → y ∈ Ex'.colsL l := by
        intro l
        induction l with
        | nil => intro h; cases h
        | cons z l ihl =>
          intro h
          simp only [Ex'.colsL, List.mem_append]
          rcases List.mem_cons.1 h with rfl | h
          · exact .inl hy
          · exact .inr (ihl h)
      exact this _ hx
    have hm : e.l.map (evalV r1) = e.l.map (evalV r2) := by
      apply List.map_congr_left
      intro x hx
      exact eval_hangs x fun y hy => h y (hsub x hx y hy)
    have ht : e.l.map (truthV r1) = e.l.map (truthV r2) := by
      apply List.map_congr_left
      intro x hx
      exact ih x hx fun y hy => h y (hsub x hx y hy)
    rw [hm, ht]
theorem m13_no : ∀ {L : List (List Val)} {n : Int}, m13 L n = false → ∀ r, r ∈ L → r.length ≤ 40
  | [], _, _, r, hr => by cases hr
  | q :: L, n, h, r, hr => by
    unfold m13 at h
    split at h
    · cases h
    · rcases List.mem_cons.1 hr with rfl | hr
      · omega
      · exact m13_no h r hr
theorem much13_no {L : List (List Val)} (h : much13 L = false) : L.length ≤ 60 ∧ ∀ r, r ∈ L → r.length ≤ 40 := by
  unfold much13 at h
  simp at h
  refine ⟨h.2, ?_⟩
  have h1 := h.1
  rw [List.take_of_length_le (by omega)] at h1
  exact m13_no h1
theorem withR_len (rs : List (List Val)) (n : Int) (r : List Val) : (withR rs n r).length = if n < 0 ∨ 63 < n then rs.length else max rs.length (n.toNat + 1) := by
  unfold withR
  split
  · rfl
  · simp [padR]; omega
theorem withR_get (rs : List (List Val)) (n : Int) (r : List Val) (i : Nat) (hi : i < (withR rs n r).length) : (withR rs n r)[i] = if (i : Int) = n then (if n < 0 ∨ 63 < n then rs.getD i [] else r) else rs.getD i [] := by
  have hl := withR_len rs n r
  by_cases h : n < 0 ∨ 63 < n
  · have e : withR rs n r = rs := by unfold withR; rw [if_pos h]
    rw [if_pos h] at hl
    simp only [e, if_pos h]
    rw [e] at hi
    simp [hi]
  · have e : withR rs n r = (padR rs (n.toNat + 1 - rs.length)).set n.toNat r := by unfold withR; rw [if_neg h]
    simp only [e, if_neg h]
    rw [List.getElem_set]
    by_cases h2 : (i : Int) = n
    · rw [if_pos (by omega), if_pos h2]
    · rw [if_neg (by omega), if_neg h2]
      simp only [padR, List.getElem_append, List.getElem_replicate]
      split
      · rename_i h3; simp [h3]
      · rename_i h3; rw [List.getD_eq_getElem?_getD, List.getElem?_eq_none (by omega)]; rfl
theorem withR_ok {rs : List (List Val)} (h : RowsOk rs) (n : Int) {r : List Val} (hr : r.length < 4611686018427387904) (hv : ∀ v, v ∈ r → valIn v) (hl : rs.length ≤ 1000) : RowsOk (withR rs n r) := by
  have hm : ∀ q, q ∈ withR rs n r → q = r ∨ q ∈ rs ∨ q = [] := by
    intro q hq
    obtain ⟨i, hi, rfl⟩ := List.getElem_of_mem hq
    rw [withR_get rs n r i hi]
    have : rs.getD i [] ∈ rs ∨ rs.getD i [] = [] := by
      rw [List.getD_eq_getElem?_getD]
      cases h : rs[i]? with
      | none => exact .inr rfl
      | some q => exact .inl (List.mem_of_getElem? h)
    split
    · split
      · exact .inr this
      · exact .inl rfl
    · exact .inr this
  refine ⟨?_, fun q hq => ?_, fun q hq v hv' => ?_⟩
  · rw [withR_len]; split <;> omega
  · rcases hm q hq with rfl | h2 | rfl
    · exact hr
    · exact h.row q h2
    · simp
  · rcases hm q hq with rfl | h2 | rfl
    · exact hv v hv'
    · exact h.val q h2 v hv'
    · cases hv'
theorem T_EvalHangs (a : Ex') (rs : List (List Val)) (n : Int) (r : List Val) (ha : OkE a) (hr : RowsOk rs) (hrl : r.length < 4611686018427387904) (hrv : ∀ v, v ∈ r → valIn v) : T Try.prog 9 [a.av, .sl .no (rows' rs), .int .i64 n, .sl .no (vals' r)] (.bool true) := by
  have m1 := T_muchE a ha
  have m2 := T_much13 rs hr.len
  have hmuch := muchE_no (e := a)
  have hm13 := much13_no (L := rs)
  have hrs := hr.len
  simp only [Ex'.av_eq] at m1
  refine T.intro (TS.body mix Try.func9 (by kernel_rfl) rfl (by kernel_rfl) (by simp) ?_)
  simp
  refine TS.callW m1 (Dws.self (by simp)) ?_
  cases hb1 : muchE a with
  | true =>
    simp
    refine GTK.callW (fun h => nomatch h) (ys := []) (r := .bool true) ?_
    simp
    refine TS.callW T_live13 .nil ?_
    simp
  | false =>
  simp
  refine GTK.callW (fun _ => ⟨m2, Dws.self (by simp)⟩) ?_
  cases hb2 : much13 rs with
  | true =>
    simp
    refine TS.callW T_live13 .nil ?_
    simp
  | false =>
  simp
  refine condK_of (fun q => ?_) (fun q => ?_)
  · simp
    refine TS.callW T_live13 .nil ?_
    simp
  simp at q
  have hnd := hmuch hb1
  have h60 := hm13 hb2
  clear m1 m2 hmuch hm13
  have kw := T_with rs n r (by omega)
  have hW := withR_ok hr n hrl hrv (by omega)
  have hWl := withR_len rs n r
  have hWg := withR_get rs n r
  generalize withR rs n r = W at *
  have kc := T_rcols a ha (by omega)
  have hcl := a.cols_len
  have v1 := T_eval rs hr a ha
  have v2 := T_eval W hW a ha
  have u1 := T_truthE rs hr a ha
  have u2 := T_truthE W hW a ha
  have eh := eval_hangs (r1 := rs) (r2 := W) a
  have th := truth_hangs (r1 := rs) (r2 := W) a
  simp only [Ex'.av_eq] at kc v1 v2 u1 u2
  simp
  refine TS.callW kw (Dws.self (by simp)) ?_
  simp
  refine vc_loop (fun i : Nat => W.length - i) (fun i e H => e 1 = .sl .no (rows' rs) ∧ e 2 = .int .i64 n ∧ e 3 = .sl .no (vals' r) ∧ e 4 = .ptr 0 0 ∧ e 9 = .sl .no (rows' W) ∧ e 10 = .int .i64 i ∧ i ≤ W.length ∧ H = [.box a.cs]) 0 ?_ ?_
  · simp
  rintro i e H ⟨h1, h2, h3, h4, h9, h10, hi, rfl⟩
  by_cases hlt : i < W.length
  · have hg := hWg i hlt
    have hrow := hW.row _ (List.getElem_mem hlt)
    have hsame := T_same04' W[i] hrow
    have ew := wrap_next hlt (by have := hW.len; omega)
    by_cases hin : (i : Int) = n
    · have hout : ¬ (n < 0 ∨ 63 < n) := by
        intro x
        rw [if_pos x] at hWl
        omega
      rw [if_pos hin, if_neg hout] at hg
      rw [hg] at hsame
      subst hin
      by_cases hl : i < rs.length
      · simp [h1, h2, h3, h4, h9, h10, hlt, hl, hg]
        refine TS.callW hsame (by repeat (first | exact .self (by simp) | constructor)) ?_
        simp [h1, h2, h3, h4, h9, h10, hlt, hl]
        exact ⟨i + 1, by omega, ew, by omega⟩
      · simp [h1, h2, h3, h4, h9, h10, hlt, hl, hg]
        refine TS.callW hsame (by repeat (first | exact .self (by simp) | constructor)) ?_
        simp [h1, h2, h3, h4, h9, h10, hlt, hl]
        exact ⟨i + 1, by omega, ew, by omega⟩
    · rw [if_neg hin] at hg
      rw [hg] at hsame
      by_cases hl : i < rs.length
      · have e1 : rs.getD i [] = rs[i] := by simp [hl]
        rw [e1] at hsame hg
        simp [h1, h2, h3, h4, h9, h10, hlt, hl, hin, hg]
        refine TS.callW hsame (by repeat (first | exact .self (by simp) | constructor)) ?_
        simp [h1, h2, h3, h4, h9, h10, hlt, hl]
        exact ⟨i + 1, by omega, ew, by omega⟩
      · have e1 : rs.getD i [] = [] := by simp [hl]
        rw [e1] at hsame hg
        simp [h1, h2, h3, h4, h9, h10, hlt, hl, hin, hg]
        refine TS.callW hsame (by repeat (first | exact .self (by simp) | constructor)) ?_
        simp [h1, h2, h3, h4, h9, h10, hlt, hl]
        exact ⟨i + 1, by omega, ew, by omega⟩
  · have hil : i = W.length := by omega
    subst hil
    simp [h1, h2, h3, h4, h9, h10]
    refine condK_of (fun q2 => ?_) (fun q2 => ?_)
    · simp at q2
      have ew : IntKind.i64.wrap (n + 1) = n + 1 := wrap_i64 (by omega) (by omega)
      have el : (W.length : Int) = n + 1 := by rw [if_neg (by omega)] at hWl; omega
      simp [h1, h2, h3, h4, h9, h10, ew, el]
      refine TS.callW kc (Dws.self (by simp)) ?_
      simp [h1, h2, h3, h4, h9, h10]
      refine vc_loop (fun i : Nat => a.cols.length - i) (fun i e H => e 1 = .sl .no (rows' rs) ∧ e 4 = .ptr 0 0 ∧ e 9 = .sl .no (rows' W) ∧ e 13 = .sl .no (exprs a.cols) ∧ e 14 = .int .i64 i ∧ i ≤ a.cols.length ∧ (∀ x, x ∈ a.cols.take i → atV rs x.t x.c = atV W x.t x.c) ∧ H = [.box a.cs]) 0 ?_ ?_
      · simp [h1, h4, h9]
      clear h1 h2 h3 h4 h9 h10 e
      rintro i e H ⟨h1, h4, h9, h13, h14, hi, hat, rfl⟩
      by_cases hlt : i < a.cols.length
      · have g1 := T_rat rs (a.cols[i]).t (a.cols[i]).c
        have g2 := T_rat W (a.cols[i]).t (a.cols[i]).c
        simp [h1, h4, h9, h13, h14, hlt]
        refine TDK.callW g1 (Dws.self (by simp)) ?_
        simp [h1, h4, h9, h13, h14, hlt]
        refine TDK.callW g2 (Dws.self (by simp)) ?_
        simp [h1, h4, h9, h13, h14, hlt]
        refine condK_of (fun q3 => ?_) (fun q3 => ?_)
        · simp
          refine TS.callW T_live13 .nil ?_
          simp
        · simp at q3
          simp [h1, h4, h9, h13, h14, hlt]
          refine ⟨i + 1, by omega, wrap_next hlt (by omega), by omega, ?_⟩
          intro x hx
          rw [take_next hlt, List.mem_append] at hx
          rcases hx with hx | hx
          · exact hat x hx
          · simp at hx
            subst hx
            exact Val.ext' q3.1 q3.2.1 q3.2.2
      · have hil : i = a.cols.length := by omega
        subst hil
        rw [List.take_length] at hat
        rw [← eh hat] at v2
        rw [← th hat] at u2
        generalize evalV rs a = p at *
        generalize truthV rs a = t at *
        simp [h1, h4, h9, h13, h14]
        refine TS.callW v1 (Dws.self (by simp)) ?_
        simp [h1, h4, h9, h13, h14]
        refine TS.callW v2 (Dws.self (by simp)) ?_
        simp [h1, h4, h9, h13, h14]
        refine GTK.callW (fun _ => ⟨u1, Dws.self (by simp)⟩) ?_
        simp [h1, h4, h9, h13, h14]
        refine GTK.callW (fun _ => ⟨u2, Dws.self (by simp)⟩) ?_
        simp [h1, h4, h9, h13, h14]
        refine GTK.callW (fun _ => ⟨T_live13, .nil⟩) ?_
        simp
    · have el : W.length = rs.length := by
        simp at q2
        rw [hWl]
        split
        · rfl
        · omega
      simp [h1, h2, h3, h4, h9, h10, el]
      refine TS.callW kc (Dws.self (by simp)) ?_
      simp [h1, h2, h3, h4, h9, h10]
      refine vc_loop (fun i : Nat => a.cols.length - i) (fun i e H => e 1 = .sl .no (rows' rs) ∧ e 4 = .ptr 0 0 ∧ e 9 = .sl .no (rows' W) ∧ e 13 = .sl .no (exprs a.cols) ∧ e 14 = .int .i64 i ∧ i ≤ a.cols.length ∧ (∀ x, x ∈ a.cols.take i → atV rs x.t x.c = atV W x.t x.c) ∧ H = [.box a.cs]) 0 ?_ ?_
      · simp [h1, h4, h9]
      clear h1 h2 h3 h4 h9 h10 e
      rintro i e H ⟨h1, h4, h9, h13, h14, hi, hat, rfl⟩
      by_cases hlt : i < a.cols.length
      · have g1 := T_rat rs (a.cols[i]).t (a.cols[i]).c
        have g2 := T_rat W (a.cols[i]).t (a.cols[i]).c
        simp [h1, h4, h9, h13, h14, hlt]
        refine TDK.callW g1 (Dws.self (by simp)) ?_
        simp [h1, h4, h9, h13, h14, hlt]
        refine TDK.callW g2 (Dws.self (by simp)) ?_
        simp [h1, h4, h9, h13, h14, hlt]
        refine condK_of (fun q3 => ?_) (fun q3 => ?_)
        · simp
          refine TS.callW T_live13 .nil ?_
          simp
        · simp at q3
          simp [h1, h4, h9, h13, h14, hlt]
          refine ⟨i + 1, by omega, wrap_next hlt (by omega), by omega, ?_⟩
          intro x hx
          rw [take_next hlt, List.mem_append] at hx
          rcases hx with hx | hx
          · exact hat x hx
          · simp at hx
            subst hx
            exact Val.ext' q3.1 q3.2.1 q3.2.2
      · have hil : i = a.cols.length := by omega
        subst hil
        rw [List.take_length] at hat
        rw [← eh hat] at v2
        rw [← th hat] at u2
        generalize evalV rs a = p at *
        generalize truthV rs a = t at *
        simp [h1, h4, h9, h13, h14]
        refine TS.callW v1 (Dws.self (by simp)) ?_
        simp [h1, h4, h9, h13, h14]
        refine TS.callW v2 (Dws.self (by simp)) ?_
        simp [h1, h4, h9, h13, h14]
        refine GTK.callW (fun _ => ⟨u1, Dws.self (by simp)⟩) ?_
        simp [h1, h4, h9, h13, h14]
        refine GTK.callW (fun _ => ⟨u2, Dws.self (by simp)⟩) ?_
        simp [h1, h4, h9, h13, h14]
        refine GTK.callW (fun _ => ⟨T_live13, .nil⟩) ?_
        simp
theorem S_EvalHangs {xs : List AV} (h : ShA Try.prog [28, 44, 3, 82] xs) : T Try.prog 9 xs (.bool true) := by
  obtain ⟨y, r, rfl, h0, h⟩ := h.cons_of ag_28
  obtain ⟨y, r, rfl, h1, h⟩ := h.cons_of ag_44
  obtain ⟨y, r, rfl, h2, h⟩ := h.cons_of ag_3
  obtain ⟨y, r, rfl, h3, h⟩ := h.cons_of ag_82
  obtain rfl := h.nil_of
  obtain ⟨a, rfl, ha, _⟩ := Expr_in h0
  obtain ⟨rs, rfl, hr⟩ := rows_in h1
  obtain ⟨n, rfl, _⟩ := h2.int_of un_3
  obtain ⟨l, rfl, hv, hl⟩ := vals_in h3
  have := T_EvalHangs a rs n l ha hr hl hv
  rw [Ex'.av_eq] at this
  exact this
end Go.Proofs.Ytgmhmdmfnmlhmac.PL
