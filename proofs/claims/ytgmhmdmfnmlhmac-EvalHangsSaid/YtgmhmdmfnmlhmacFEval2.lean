/- The laws of worth. -/
import Derived.Test.YtgmhmdmfnmlhmacFEval
namespace Go.Proofs.Ytgmhmdmfnmlhmac.PL
open Go.Proofs
set_option linter.unusedVariables false
set_option linter.unusedSimpArgs false
theorem T_code13 (n : Int) : T Try.prog 40 [.int .i64 n] (.int .i64 n) := by
  refine T.intro (TS.body mix Try.func40 (by kernel_rfl) rfl (by kernel_rfl) (by simp) ?_)
  simp
def in13 (n : Int) (r : List Val) : Int := r.foldl (fun n v => IntKind.i64.wrap (IntKind.i64.wrap (n + 1) + v.s.size)) n
def m13 : List (List Val) → Int → Bool
  | [], _ => false
  | r :: rs, n => if 40 < r.length ∨ 2000 < in13 n (r.take 50) then true else m13 rs (in13 n (r.take 50))
def much13 (L : List (List Val)) : Bool := m13 (L.take 70) 0 || decide (60 < L.length)
theorem T_much13 (L : List (List Val)) (hL : L.length < 4611686018427387904) : T Try.prog 36 [.sl .no (rows' L)] (.bool (much13 L)) := by
  refine T.intro (TS.body mix Try.func36 (by kernel_rfl) rfl (by kernel_rfl) (by simp) ?_)
  simp
  refine vc_loop (fun i : Nat => 70 - i) (fun i e H => ∃ n : Int, e 0 = .sl .no (rows' L) ∧ e 3 = .int .i64 n ∧ e 4 = .int .i64 i ∧ i ≤ 70 ∧ i ≤ L.length ∧ much13 L = (m13 ((L.take 70).drop i) n || decide (60 < L.length))) 0 ?_ ?_
  · exact ⟨0, by simp [much13]⟩
  rintro i e H ⟨n, h0, h3, h4, hi, hi2, hm⟩
  by_cases hlt : i < L.length ∧ i < 70
  · have hlt' : i < (L.take 70).length := by rw [List.length_take]; omega
    have ed : (L.take 70).drop i = L[i] :: (L.take 70).drop (i + 1) := by rw [List.drop_eq_getElem_cons hlt', List.getElem_take]
    have h70 : ((i : Int) < 70) = True := eq_true (by omega)
    rw [ed, m13] at hm
    generalize hX : L[i] = r at *
    simp [h0, h3, h4, hlt.1, h70, hX]
    refine vc_loop (fun j : Nat => 50 - j) (fun j e H => e 0 = .sl .no (rows' L) ∧ e 3 = .int .i64 (in13 n ((r.take 50).take j)) ∧ e 4 = .int .i64 i ∧ e 5 = .int .i64 j ∧ j ≤ 50 ∧ j ≤ r.length) 0 ?_ ?_
    · simp [h0, h3, h4, in13]
    clear h0 h3 h4 e
    rintro j e H ⟨h0, h3, h4, h5, hj, hj2⟩
    by_cases hjl : j < r.length ∧ j < 50
    · have hjl' : j < (r.take 50).length := by rw [List.length_take]; omega
      have h50 : ((j : Int) < 50) = True := eq_true (by omega)
      have en : in13 n ((r.take 50).take (j + 1)) = IntKind.i64.wrap (IntKind.i64.wrap (in13 n ((r.take 50).take j) + 1) + r[j].s.size) := by
        rw [take_next hjl', in13, List.foldl_append]
        simp [in13]
      simp [h0, h3, h4, h5, hlt.1, hX, hjl.1, h50]
      exact ⟨j + 1, by omega, en.symm, wrap_next hjl.2 (by omega), by omega, by omega⟩
    · have hc : (decide (j < r.length) && decide ((j : Int) < 50)) = false := by simp; omega
      have e50 : (r.take 50).take j = r.take 50 := List.take_of_length_le (by rw [List.length_take]; omega)
      rw [e50] at h3
      simp [h0, h3, h4, h5, hlt.1, hX, hc]
      refine condK_of (fun q => ?_) (fun q => ?_)
      · simp at q
        rw [if_pos (by omega)] at hm
        simp [hm]
      · simp at q
        rw [if_neg (by omega)] at hm
        simp [h0, h3, h4, h5, hlt.1, hX]
        exact ⟨i + 1, by omega, wrap_next hlt.1 (by omega), by omega, by omega, hm⟩
  · have hc : (decide (i < L.length) && decide ((i : Int) < 70)) = false := by simp; omega
    have he : (L.take 70).drop i = [] := List.drop_of_length_le (by rw [List.length_take]; omega)
    simp [h0, h3, h4, hc]
    rw [hm, he]; simp [m13]
    try omega
def lv15 : Ex' := .mk 15 ByteArray.empty ByteArray.empty 0 0 zV []
def lv16 : Ex' := .mk 16 ByteArray.empty ByteArray.empty 0 0 zV []
def lvEq : Ex' := .mk 1 ByteArray.empty ByteArray.empty 0 0 zV [lv15, lv16]
def lvNot : Ex' := .mk 12 ByteArray.empty ByteArray.empty 0 0 zV [lvEq]
def lvRows : List (List Val) := [[⟨1, 7, ByteArray.empty⟩]]
theorem ok_lv : OkE lv15 ∧ OkE lv16 ∧ OkE lvEq ∧ OkE lvNot := by
  have o1 : OkE lv15 := .mk (by simp [lv15]) (by simpa [lv15] using zV_in) (by decide) (by decide) (by simp [lv15])
  have o2 : OkE lv16 := .mk (by simp [lv16]) (by simpa [lv16] using zV_in) (by decide) (by decide) (by simp [lv16])
  have o3 : OkE lvEq := .mk (by simp [lvEq]) (by simpa [lvEq] using zV_in) (by decide) (by decide) (by simp [lvEq, o1, o2])
  exact ⟨o1, o2, o3, .mk (by simp [lvNot]) (by simpa [lvNot] using zV_in) (by decide) (by decide) (by simp [lvNot, o3])⟩
theorem ok_lvRows : RowsOk lvRows := ⟨by simp [lvRows], by simp [lvRows], by simp [lvRows, valIn]⟩
theorem T_live13 : T Try.prog 37 [] (.bool true) := by
  obtain ⟨o1, o2, o3, o4⟩ := ok_lv
  have k1 := T_eval lvRows ok_lvRows lv15 o1
  have k2 := T_truthE lvRows ok_lvRows lvEq o3
  have k3 := T_truthE lvRows ok_lvRows lvNot o4
  have v15 : evalV lvRows lv15 = (⟨1, 7, ByteArray.empty⟩, 0) := by simp [evalV_eq, lv15, atV, lvRows]
  have v16 : evalV lvRows lv16 = (zV, 0) := by simp [evalV_eq, lv16]
  have e1 : truthV lvRows lvEq = 2 := by rw [truthV_eq]; simp [lvEq, argsE, v15, v16, testT, alike]
  have e2 : truthV lvRows lvNot = 2 := by rw [truthV_eq]; simp [lvNot, argsE, e1, notT]
  rw [v15] at k1
  rw [e1] at k2
  rw [e2] at k3
  simp only [Ex'.av_eq, Ex'.cs, lv15, lv16, lvEq, lvNot, lvRows, rows', vals', op_mk, tab_mk, name_mk, t_mk, c_mk, v_mk, l_mk, zV_k, zV_i, zV_s, avs_nil, avs_cons] at k1 k2 k3
  have kc := T_code13 0
  refine T.intro (TS.body mix Try.func37 (by kernel_rfl) rfl (by kernel_rfl) (by simp) ?_)
  simp
  refine TS.callW k1 (by repeat (first | exact .self rfl | constructor)) ?_
  simp
  refine TS.callW k2 (by repeat (first | exact .self rfl | constructor)) ?_
  simp
  refine GTK.callW (fun _ => ⟨k3, by repeat (first | exact .self rfl | constructor)⟩) ?_
  simp
  refine GTK.callW (fun _ => ⟨kc, by repeat (first | exact .self rfl | constructor)⟩) ?_
  simp
theorem T_EvalVals (a : Ex') (rs : List (List Val)) (t c : Int) (ha : OkE a) (hr : RowsOk rs) : T Try.prog 7 [a.av, .sl .no (rows' rs), .int .i64 t, .int .i64 c] (.bool true) := by
  have m1 := T_muchE a ha
  have m2 := T_much13 rs hr.len
  have k1 := T_eval rs hr a ha
  have k2 := T_reval rs hr a ha
  have k3 := T_code13 (evalV rs a).2
  have k4 := T_at rs t c
  have k5 := T_rat rs t c
  simp only [Ex'.av_eq] at m1 k1 k2
  generalize muchE a = b1 at *
  generalize much13 rs = b2 at *
  generalize evalV rs a = p at *
  generalize atV rs t c = q at *
  refine T.intro (TS.body mix Try.func7 (by kernel_rfl) rfl (by kernel_rfl) (by simp) ?_)
  simp
  refine TS.callW m1 (Dws.self (by simp)) ?_
  cases b1 with
  | true =>
    simp
    refine GTK.callW (fun h => nomatch h) (ys := []) (r := .bool true) ?_
    simp
    refine TS.callW T_live13 .nil ?_
    simp
  | false =>
  simp
  refine GTK.callW (fun _ => ⟨m2, Dws.self (by simp)⟩) ?_
  cases b2 with
  | true =>
    simp
    refine TS.callW T_live13 .nil ?_
    simp
  | false =>
  simp
  refine TS.callW k1 (Dws.self (by simp)) ?_
  simp
  refine TS.callW k2 (Dws.self (by simp)) ?_
  simp
  refine GTK.callW (fun _ => ⟨k3, Dws.self (by simp)⟩) ?_
  simp
  refine GTK.callW (fun _ => ⟨k4, Dws.self (by simp)⟩) ?_
  simp
  refine GTK.callW (fun _ => ⟨k5, Dws.self (by simp)⟩) ?_
  simp
  refine GTK.callW (fun _ => ⟨T_live13, .nil⟩) ?_
  simp
theorem rows_in {cs : List AV} (h : Sh Try.prog 44 cs) : ∃ rs : List (List Val), cs = [.sl .no (rows' rs)] ∧ RowsOk rs := by
  have hr := reach_lt
  obtain ⟨zs, rfl, hz, hzl⟩ := h.sl_of un_44 ag_82
  obtain ⟨rows, er, elr, hrow⟩ := list_in (f := rowA) (g := mkAV false) (Q := fun r => r.length < 4611686018427387904 ∧ ∀ v, v ∈ r → valIn v) (fun z hz' => by
    obtain ⟨l, e, hv, hlen⟩ := vals_in (hz z hz')
    exact ⟨l, by rw [e]; rfl, hlen, hv⟩)
  have b2 : 1 ≤ Try.prog.bytesOf 82 := by decide +kernel
  have m2 := Nat.mul_le_mul_left zs.length b2
  exact ⟨rows, by rw [er]; rfl, by omega, fun r hr => (hrow r hr).1, fun r hr => (hrow r hr).2⟩
theorem S_EvalVals {xs : List AV} (h : ShA Try.prog [28, 44, 3, 3] xs) : T Try.prog 7 xs (.bool true) := by
  obtain ⟨y, r, rfl, h0, h⟩ := h.cons_of ag_28
  obtain ⟨y, r, rfl, h1, h⟩ := h.cons_of ag_44
  obtain ⟨y, r, rfl, h2, h⟩ := h.cons_of ag_3
  obtain ⟨y, r, rfl, h3, h⟩ := h.cons_of ag_3
  obtain rfl := h.nil_of
  obtain ⟨a, rfl, ha, _⟩ := Expr_in h0
  obtain ⟨rs, rfl, hr⟩ := rows_in h1
  obtain ⟨t, rfl, _⟩ := h2.int_of un_3
  obtain ⟨c, rfl, _⟩ := h3.int_of un_3
  have := T_EvalVals a rs t c ha hr
  rw [Ex'.av_eq] at this
  exact this
end Go.Proofs.Ytgmhmdmfnmlhmac.PL
