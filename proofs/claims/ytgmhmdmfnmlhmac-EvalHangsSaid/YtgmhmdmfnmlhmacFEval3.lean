/- The laws of worth: truths. -/
import Derived.Test.YtgmhmdmfnmlhmacFEval2
import Derived.Test.YtgmhmdmfnmlhmacFTree4
namespace Go.Proofs.Ytgmhmdmfnmlhmac.PL
open Go.Proofs
set_option linter.unusedVariables false
set_option linter.unusedSimpArgs false
theorem S_idxEC (H : List HO) (f : FuncId) (caps : List AV) (l : List Ex') (q : Ex' → Bool) (hl : l.length < 4611686018427387904) (hq : ∀ x, x ∈ l → TS Try.prog f (x.av :: caps) H (pt (.bool (q x)) H)) : TS Try.prog 140 [.sl .no (exprs l), .fn (.func f) [] caps] H (pt (.int .i64 (match l.findIdx? q with | some i => (i : Int) | none => -1)) H) := by
  refine TS.body mix Try.func140 (by kernel_rfl) rfl (by kernel_rfl) (by simp) ?_
  simp
  refine vc_loop (fun i : Nat => l.length - i) (fun i e H' => e 0 = .sl .no (exprs l) ∧ e 1 = .fn (.func f) [] caps ∧ e 7 = .int .i64 l.length ∧ e 8 = .int .i64 i ∧ i ≤ l.length ∧ (∀ j (h : j < l.length), j < i → q l[j] = false) ∧ H' = H) 0 ?_ ?_
  · simp
  rintro i e H' ⟨h0, h1, h7, h8, hi, hno, rfl⟩
  by_cases hlt : i < l.length
  · have ew := wrap_next hlt (by omega)
    have hqi := hq l[i] (List.getElem_mem hlt)
    simp only [Ex'.av_eq] at hqi
    simp [h0, h1, h7, h8, hlt]
    refine TS.pt hqi ?_
    simp [h0, h1, h7, h8, hlt]
    refine condK_of (fun c => ?_) (fun c => ?_)
    · have : l.findIdx? q = some i := by
        rw [List.findIdx?_eq_some_iff_getElem]
        exact ⟨hlt, c, fun j hj => by rw [hno j (by omega) hj]; simp⟩
      rw [this]
      simp
    · simp [h0, h1, h7, h8, hlt]
      refine ⟨i + 1, by omega, ew, by omega, fun j h hj => ?_⟩
      rcases Nat.lt_or_ge j i with h2 | h2
      · exact hno j h h2
      · have : j = i := by omega
        subst this; exact c
  · have : i = l.length := by omega
    subst this
    have : l.findIdx? q = none := by
      rw [List.findIdx?_eq_none_iff]
      intro x hx
      obtain ⟨j, hj, rfl⟩ := List.getElem_of_mem hx
      exact hno j hj hj
    rw [this]
    simp [h0, h1, h7, h8]
theorem S_anyEC (H : List HO) (f : FuncId) (caps : List AV) (l : List Ex') (q : Ex' → Bool) (hl : l.length < 4611686018427387904) (hq : ∀ x, x ∈ l → TS Try.prog f (x.av :: caps) H (pt (.bool (q x)) H)) : TS Try.prog 96 [.sl .no (exprs l), .fn (.func f) [] caps] H (pt (.bool (l.any q)) H) := by
  refine TS.body mix Try.func96 (by kernel_rfl) rfl (by kernel_rfl) (by simp) ?_
  simp
  refine TS.pt (S_idxEC H f caps l q hl hq) ?_
  have : decide (0 ≤ (match l.findIdx? q with | some i => (i : Int) | none => -1)) = l.any q := by
    cases h : l.findIdx? q with
    | none =>
      rw [List.findIdx?_eq_none_iff] at h
      have : l.any q = false := by rw [List.any_eq_false]; intro x hx; simpa using h x hx
      rw [this]; simp
    | some i =>
      obtain ⟨h1, h2, _⟩ := List.findIdx?_eq_some_iff_getElem.1 h
      rw [List.any_eq_true.2 ⟨_, List.getElem_mem h1, h2⟩]
      simp
  simp [this]
theorem S_holds1 (rs : List (List Val)) (hr : RowsOk rs) (e : Ex') (he : OkE e) (H : List HO) (k : Nat) (hk : H[k]? = some (.box [.sl .no (rows' rs)])) : TS Try.prog 97 [e.av, .ptr k 0] H (pt (.bool (!decide (truthV rs e = 1))) H) := by
  have hkl := (List.getElem?_eq_some_iff.1 hk).1
  have hk' : ∀ X : HO, (H ++ [X])[k]? = some (.box [.sl .no (rows' rs)]) := fun X => by rw [List.getElem?_append_left hkl]; exact hk
  have f := T_truthE rs hr e he
  have g := T_lis (truthV rs e)
  simp only [Ex'.av_eq] at f
  refine TS.dropH ?_ rfl
  refine TS.body mix Try.func97 (by kernel_rfl) rfl (by kernel_rfl) (by simp) ?_
  simp [hk']
  refine TS.callW f (Dws.self (by simp)) ?_
  simp [hk']
  refine TS.callW g (Dws.self (by simp)) ?_
  simp [hk']
theorem T_holds (rs : List (List Val)) (hr : RowsOk rs) (l : List Ex') (hl : OkL l) : T Try.prog 45 [.sl .no (exprs l), .sl .no (rows' rs)] (.bool (l.all fun e => decide (truthV rs e = 1))) := by
  have h := S_anyEC [.box [.sl .no (rows' rs)]] 97 [.ptr 0 0] l (fun e => !decide (truthV rs e = 1)) hl.lt fun x hx => S_holds1 rs hr x (hl.ok x hx) _ 0 rfl
  refine T.intro (TS.body mix Try.func45 (by kernel_rfl) rfl (by kernel_rfl) (by simp) ?_)
  simp
  refine TS.pt h ?_
  simp
  rw [Bool.eq_iff_iff]
  simp
theorem T_EvalTruths (a : Ex') (l : List Ex') (rs : List (List Val)) (ha : OkE a) (hl : OkL l) (hr : RowsOk rs) : T Try.prog 8 [a.av, .sl .no (exprs l), .sl .no (rows' rs)] (.bool true) := by
  have m1 := T_muchE a ha
  have m2 := T_much13 rs hr.len
  have oz : OkE (.mk 0 ByteArray.empty ByteArray.empty 0 0 zV []) := .mk (by simp) (by simpa using zV_in) (by simp) (by simp) (by simp)
  have oq : OkQ ⟨l, [], .mk 0 ByteArray.empty ByteArray.empty 0 0 zV [], []⟩ := ⟨hl, by simp, by simp, oz, ⟨by simp, by simp⟩⟩
  have m3 := T_muchQ _ oq
  have k1 := T_truthE rs hr a ha
  have k2 := T_rtruth rs hr a ha
  have k3 := T_holds rs hr l hl
  have hll := hl.lt
  simp only [Ex'.av_eq] at m1 k1 k2
  simp only [Qry.av, Qry.cs, frms, exprs, avs_nil, op_mk, tab_mk, name_mk, t_mk, c_mk, v_mk, l_mk, zV_k, zV_i, zV_s] at m3
  generalize muchE a = b1 at *
  generalize much13 rs = b2 at *
  generalize muchQ _ = b3 at *
  generalize truthV rs a = p at *
  refine T.intro (TS.body mix Try.func8 (by kernel_rfl) rfl (by kernel_rfl) (by simp) ?_)
  simp
  refine TS.callW m1 (Dws.self (by simp)) ?_
  cases b1 with
  | true =>
    simp
    refine GTK.callW (fun h => nomatch h) (ys := []) (r := .bool true) ?_
    simp
    refine GTK.callW (fun h => nomatch h) (ys := []) (r := .bool true) ?_
    simp
    refine TS.callW T_live13 .nil ?_
    simp
  | false =>
  simp
  refine GTK.callW (fun _ => ⟨m2, Dws.self (by simp)⟩) ?_
  cases b2 with
  | true =>
    simp
    refine GTK.callW (fun h => nomatch h) (ys := []) (r := .bool true) ?_
    simp
    refine TS.callW T_live13 .nil ?_
    simp
  | false =>
  simp
  refine GTK.callW (fun _ => ⟨m3, .cons (.agg (by repeat (first | exact .self (by simp) | constructor))) .nil⟩) ?_
  cases b3 with
  | true =>
    simp
    refine TS.callW T_live13 .nil ?_
    simp
  | false =>
  simp
  refine vc_loop (fun i : Nat => l.length - i) (fun i e H => e 1 = .sl .no (exprs l) ∧ e 2 = .sl .no (rows' rs) ∧ e 3 = .ptr 0 0 ∧ e 7 = .bool ((l.take i).all fun e => decide (truthV rs e = 1)) ∧ e 8 = .int .i64 i ∧ i ≤ l.length ∧ H = [.box a.cs]) 0 ?_ ?_
  · simp
  rintro i e H ⟨h1, h2, h3, h7, h8, hi, rfl⟩
  by_cases hlt : i < l.length
  · have hc := T_rtruth rs hr l[i] (hl.ok _ (List.getElem_mem hlt))
    have et : ((l.take (i + 1)).all fun e => decide (truthV rs e = 1)) = (((l.take i).all fun e => decide (truthV rs e = 1)) && decide (truthV rs l[i] = 1)) := by rw [take_next hlt, List.all_append]; simp
    simp only [Ex'.av_eq] at hc
    generalize ((l.take i).all fun e => decide (truthV rs e = 1)) = c at *
    cases c with
    | true =>
      simp [h1, h2, h3, h7, h8, hlt]
      refine GTK.callW (fun _ => ⟨hc, Dws.self (by simp)⟩) ?_
      simp [h1, h2, h3, h7, h8, hlt]
      exact ⟨i + 1, by omega, by rw [et]; simp, wrap_next hlt (by omega), by omega⟩
    | false =>
      simp [h1, h2, h3, h7, h8, hlt]
      refine GTK.callW (fun h => nomatch h) (ys := []) (r := .bool true) ?_
      simp [h1, h2, h3, h7, h8, hlt]
      exact ⟨i + 1, by omega, by simpa using et, wrap_next hlt (by omega), by omega⟩
  · have hil : i = l.length := by omega
    subst hil
    rw [List.take_length] at h7
    simp [h1, h2, h3, h7, h8]
    refine TDK.callW k1 (Dws.self (by simp)) ?_
    simp [h1, h2, h3, h7, h8]
    refine TDK.callW k2 (Dws.self (by simp)) ?_
    simp [h1, h2, h3, h7, h8]
    refine GTK.callW (fun _ => ⟨k3, Dws.self (by simp)⟩) ?_
    simp [h1, h2, h3, h7, h8]
    refine GTK.callW (fun _ => ⟨T_live13, .nil⟩) ?_
    simp
theorem S_EvalTruths {xs : List AV} (h : ShA Try.prog [28, 23, 44] xs) : T Try.prog 8 xs (.bool true) := by
  obtain ⟨y, r, rfl, h0, h⟩ := h.cons_of ag_28
  obtain ⟨y, r, rfl, h1, h⟩ := h.cons_of ag_23
  obtain ⟨y, r, rfl, h2, h⟩ := h.cons_of ag_44
  obtain rfl := h.nil_of
  obtain ⟨a, rfl, ha, _⟩ := Expr_in h0
  obtain ⟨l, rfl, hl⟩ := exprs_in h1
  obtain ⟨rs, rfl, hr⟩ := rows_in h2
  have := T_EvalTruths a l rs ha hl hr
  rw [Ex'.av_eq] at this
  exact this
end Go.Proofs.Ytgmhmdmfnmlhmac.PL
