/- What expressions are worth. -/
import Derived.Test.YtgmhmdmfnmlhmacFTree3
import Derived.Test.YtgmhmdmfnmlhmacFLogic3
import Derived.Test.YtgmhmdmfnmlhmacFArith
namespace Go.Proofs.Ytgmhmdmfnmlhmac.PL
open Go.Proofs
set_option linter.unusedVariables false
set_option linter.unusedSimpArgs false
structure RowsOk (rs : List (List Val)) : Prop where
  len : rs.length < 4611686018427387904
  row : ∀ r, r ∈ rs → r.length < 4611686018427387904
  val : ∀ r, r ∈ rs → ∀ v, v ∈ r → valIn v
theorem zV_in : valIn zV := by simp [valIn, zV]
def atV (rs : List (List Val)) (t c : Int) : Val := if 0 ≤ t ∧ 0 ≤ c then ((rs.getD t.toNat []).getD c.toNat zV) else zV
theorem atV_in {rs : List (List Val)} (h : RowsOk rs) (t c : Int) : valIn (atV rs t c) := by
  unfold atV
  split
  · rw [List.getD_eq_getElem?_getD, List.getD_eq_getElem?_getD]
    cases h1 : rs[t.toNat]? with
    | none => simp; exact zV_in
    | some r =>
      simp only [Option.getD_some]
      cases h2 : r[c.toNat]? with
      | none => exact zV_in
      | some v => exact h.val r (List.mem_of_getElem? h1) v (List.mem_of_getElem? h2)
  · exact zV_in
set_option maxRecDepth 10000 in
theorem T_at (rs : List (List Val)) (t c : Int) : T Try.prog 41 [.sl .no (rows' rs), .int .i64 t, .int .i64 c] (atV rs t c).av := by
  refine T.intro (TS.body mix Try.func41 (by kernel_rfl) rfl (by kernel_rfl) (by simp) ?_)
  by_cases h1 : 0 ≤ t ∧ t < rs.length
  · obtain ⟨n, rfl⟩ : ∃ n : Nat, t = n := ⟨t.toNat, by omega⟩
    have hn : n < rs.length := by omega
    by_cases h2 : 0 ≤ c ∧ c < (rs[n]).length
    · obtain ⟨m, rfl⟩ : ∃ m : Nat, c = m := ⟨c.toNat, by omega⟩
      have hm : m < (rs[n]).length := by omega
      have e1 : ¬ (n : Int) < 0 := by omega
      have e2 : ¬ (m : Int) < 0 := by omega
      have e3 : ¬ rs.length ≤ n := by omega
      have e4 : ¬ (rs[n]).length ≤ m := by omega
      simp [hn, hm, e1, e2, e3, e4, atV]
    · have e1 : ¬ (n : Int) < 0 := by omega
      have e3 : ¬ rs.length ≤ n := by omega
      have ev : atV rs n c = zV := by
        unfold atV
        split
        · rw [List.getD_eq_getElem?_getD, List.getD_eq_getElem?_getD, Int.toNat_natCast, List.getElem?_eq_getElem hn, Option.getD_some, List.getElem?_eq_none (by omega)]
          rfl
        · rfl
      rw [ev]
      by_cases h3 : c < 0
      · simp [hn, e1, e3, h3]
        refine TS.call' T_null (by simp) ?_
        simp [zV]
      · obtain ⟨m, rfl⟩ : ∃ m : Nat, c = m := ⟨c.toNat, by omega⟩
        have e2 : ¬ (m : Int) < 0 := by omega
        have e4 : (rs[n]).length ≤ m := by omega
        simp [hn, e1, e2, e3, e4]
        refine TS.call' T_null (by simp) ?_
        simp [zV]
  · have ev : atV rs t c = zV := by
      unfold atV
      split
      · have e0 : rs[t.toNat]? = none := List.getElem?_eq_none (by omega)
        rw [List.getD_eq_getElem?_getD, List.getD_eq_getElem?_getD, e0]
        rfl
      · rfl
    rw [ev]
    by_cases h3 : t < 0
    · simp [h3, -ifAV]
      refine TS.call' T_null (by simp) ?_
      simp [zV]
    · have h4 : (rs.length : Int) ≤ t := by omega
      simp [h3, h4, -ifAV]
      refine TS.call' T_null (by simp) ?_
      simp [zV]
set_option maxRecDepth 10000 in
theorem T_rat (rs : List (List Val)) (t c : Int) : T Try.prog 42 [.sl .no (rows' rs), .int .i64 t, .int .i64 c] (atV rs t c).av := by
  refine T.intro (TS.body mix Try.func42 (by kernel_rfl) rfl (by kernel_rfl) (by simp) ?_)
  by_cases h1 : 0 ≤ t ∧ t < rs.length
  · obtain ⟨n, rfl⟩ : ∃ n : Nat, t = n := ⟨t.toNat, by omega⟩
    have hn : n < rs.length := by omega
    have e1 : (0 : Int) ≤ n := by omega
    by_cases h2 : 0 ≤ c ∧ c < (rs[n]).length
    · obtain ⟨m, rfl⟩ : ∃ m : Nat, c = m := ⟨c.toNat, by omega⟩
      have hm : m < (rs[n]).length := by omega
      have e2 : (0 : Int) ≤ m := by omega
      simp [hn, hm, e1, e2, atV]
    · have ev : atV rs n c = zV := by
        unfold atV
        split
        · rw [List.getD_eq_getElem?_getD, List.getD_eq_getElem?_getD, Int.toNat_natCast, List.getElem?_eq_getElem hn, Option.getD_some, List.getElem?_eq_none (by omega)]
          rfl
        · rfl
      rw [ev]
      by_cases h3 : 0 ≤ c
      · obtain ⟨m, rfl⟩ : ∃ m : Nat, c = m := ⟨c.toNat, by omega⟩
        have e4 : ¬ m < (rs[n]).length := by omega
        simp [hn, e1, h3, e4, zV]
      · simp [hn, e1, h3, zV]
  · have ev : atV rs t c = zV := by
      unfold atV
      split
      · have e0 : rs[t.toNat]? = none := List.getElem?_eq_none (by omega)
        rw [List.getD_eq_getElem?_getD, List.getD_eq_getElem?_getD, e0]
        rfl
      · rfl
    rw [ev]
    by_cases h3 : 0 ≤ t
    · have h4 : ¬ t < (rs.length : Int) := by omega
      simp [h3, h4, zV, -ifAV]
    · simp [h3, zV, -ifAV]
mutual
def evalV (rs : List (List Val)) : Ex' → Val × Int
  | .mk op _ _ t c v l => if op = 15 then (atV rs t c, 0) else if op = 16 then (v, 0) else if 7 ≤ op ∧ op ≤ 9 then
      (match evalVL rs l with
      | [a, b] => if a.2 ≠ 0 then (zV, a.2) else if b.2 ≠ 0 then (zV, b.2) else doV op a.1 b.1
      | _ => (zV, 3)) else (zV, 3)
def evalVL (rs : List (List Val)) : List Ex' → List (Val × Int)
  | [] => []
  | e :: l => evalV rs e :: evalVL rs l
end
theorem evalVL_map (rs : List (List Val)) : ∀ l, evalVL rs l = l.map (evalV rs)
  | [] => rfl
  | e :: l => by rw [evalVL, evalVL_map rs l]; rfl
theorem evalV_eq (rs : List (List Val)) (e : Ex') : evalV rs e = if e.op = 15 then (atV rs e.t e.c, 0) else if e.op = 16 then (e.v, 0) else if 7 ≤ e.op ∧ e.op ≤ 9 then
      (match e.l.map (evalV rs) with
      | [a, b] => if a.2 ≠ 0 then (zV, a.2) else if b.2 ≠ 0 then (zV, b.2) else doV e.op a.1 b.1
      | _ => (zV, 3)) else (zV, 3) := by
  cases e with
  | mk op tab name t c v l => rw [evalV, evalVL_map]; rfl
theorem doV_in (op : Int) (a b : Val) : valIn (doV op a b).1 := by
  unfold doV
  split
  · simp [valIn]
  · split
    · simp [valIn]
    · dsimp only
      generalize (if op = 7 then a.i + b.i else if op = 8 then a.i - b.i else a.i * b.i) = x
      split
      · rename_i h; unfold isI at h; simp [valIn]; exact h
      · simp [valIn]
theorem evalV_in {rs : List (List Val)} (hr : RowsOk rs) (e : Ex') : OkE e → valIn (evalV rs e).1 := by
  intro he
  rw [evalV_eq]
  split
  · exact atV_in hr _ _
  · split
    · cases he; assumption
    · split
      · split
        · split
          · exact zV_in
          · split
            · exact zV_in
            · exact doV_in _ _ _
        · exact zV_in
      · exact zV_in
theorem T_eval (rs : List (List Val)) (hr : RowsOk rs) (e : Ex') : OkE e → T Try.prog 38 [e.av, .sl .no (rows' rs)] (.tup [(evalV rs e).1.av, .int .i64 (evalV rs e).2]) := by
  induction e using Ex'.ind with
  | h a ih =>
  intro ha
  refine T.intro (TS.body mix Try.func38 (by kernel_rfl) rfl (by kernel_rfl) (by simp) ?_)
  rw [evalV_eq]
  by_cases k1 : a.op = 15
  · have f := T_at rs a.t a.c
    simp [k1]
    refine TS.callW f (Dws.self (by simp)) ?_
    simp
  by_cases k2 : a.op = 16
  · simp [k2]
  rw [if_neg k1, if_neg k2]
  by_cases k3 : 7 ≤ a.op ∧ a.op ≤ 9
  · rw [if_pos k3]
    by_cases k4 : a.l.length = 2
    · obtain ⟨x, y, hl⟩ : ∃ x y, a.l = [x, y] := by
        match a.l, k4 with
        | [x, y], _ => exact ⟨x, y, rfl⟩
      have fx := ih x (by rw [hl]; simp) (ha.sub (by rw [hl]; simp))
      have fy := ih y (by rw [hl]; simp) (ha.sub (by rw [hl]; simp))
      have ix := evalV_in hr x (ha.sub (by rw [hl]; simp))
      have iy := evalV_in hr y (ha.sub (by rw [hl]; simp))
      have fd := T_ado a.op (evalV rs x).1 (evalV rs y).1 ix.2.1 iy.2.1
      simp only [Ex'.av_eq] at fx fy
      rw [hl]
      simp only [List.map_cons, List.map_nil]
      generalize evalV rs x = p at *
      generalize evalV rs y = q at *
      have hop : a.op = 7 ∨ a.op = 8 ∨ a.op = 9 := by omega
      rcases hop with k | k | k
      all_goals
        simp [k, hl]
        refine TS.callW fx (Dws.self (by simp)) ?_
        simp [k, hl]
        refine condK_of (fun q1 => ?_) (fun q1 => ?_)
        · simp at q1
          simp [k, hl, q1, zV]
        simp at q1
        simp [k, hl, q1]
        refine TS.callW fy (Dws.self (by simp)) ?_
        simp [k, hl, q1]
        refine condK_of (fun q2 => ?_) (fun q2 => ?_)
        · simp at q2
          simp [k, hl, q1, q2, zV]
        simp at q2
        simp [k, hl, q1, q2]
        rw [k] at fd
        refine TS.callW fd (Dws.self (by simp)) ?_
        simp [k, hl, q1, q2]
    · have hm : (match a.l.map (evalV rs) with
        | [p, q] => if p.2 ≠ 0 then (zV, p.2) else if q.2 ≠ 0 then (zV, q.2) else doV a.op p.1 q.1
        | _ => (zV, 3)) = (zV, (3 : Int)) := by
        split
        · rename_i p q h
          have := congrArg List.length h
          simp at this
          omega
        · rfl
      rw [hm]
      have k5 : ¬ (a.l.length : Int) = 2 := by omega
      have hop : a.op = 7 ∨ a.op = 8 ∨ a.op = 9 := by omega
      rcases hop with k | k | k <;> simp [k, k4, k5, zV]
  · rw [if_neg k3]
    have k4 : ¬ a.op = 7 := by omega
    have k5 : ¬ a.op = 8 := by omega
    have k6 : ¬ a.op = 9 := by omega
    simp [k1, k2, k4, k5, k6, zV]
theorem T_reval (rs : List (List Val)) (hr : RowsOk rs) (e : Ex') : OkE e → T Try.prog 39 [e.av, .sl .no (rows' rs)] (.tup [(evalV rs e).1.av, .int .i64 (evalV rs e).2]) := by
  induction e using Ex'.ind with
  | h a ih =>
  intro ha
  refine T.intro (TS.body mix Try.func39 (by kernel_rfl) rfl (by kernel_rfl) (by simp) ?_)
  rw [evalV_eq]
  by_cases k1 : a.op = 15
  · have f := T_rat rs a.t a.c
    simp [k1]
    refine TS.callW f (Dws.self (by simp)) ?_
    simp
  by_cases k2 : a.op = 16
  · simp [k2]
  rw [if_neg k1, if_neg k2]
  by_cases k3 : 7 ≤ a.op ∧ a.op ≤ 9
  · rw [if_pos k3]
    have k7 : ¬ a.op < 7 := by omega
    have k8 : ¬ 9 < a.op := by omega
    by_cases k4 : a.l.length = 2
    · obtain ⟨x, y, hl⟩ : ∃ x y, a.l = [x, y] := by
        match a.l, k4 with
        | [x, y], _ => exact ⟨x, y, rfl⟩
      have fx := ih x (by rw [hl]; simp) (ha.sub (by rw [hl]; simp))
      have fy := ih y (by rw [hl]; simp) (ha.sub (by rw [hl]; simp))
      have ix := evalV_in hr x (ha.sub (by rw [hl]; simp))
      have iy := evalV_in hr y (ha.sub (by rw [hl]; simp))
      have fd := T_rado a.op (evalV rs x).1 (evalV rs y).1 ix.2.1 iy.2.1
      simp only [Ex'.av_eq] at fx fy
      rw [hl]
      simp only [List.map_cons, List.map_nil]
      generalize evalV rs x = p at *
      generalize evalV rs y = q at *
      simp [k1, k2, k7, k8, hl]
      refine TS.callW fx (Dws.self (by simp)) ?_
      simp [hl]
      refine condK_of (fun q1 => ?_) (fun q1 => ?_)
      · simp at q1
        simp [hl, q1, zV]
      simp at q1
      simp [hl, q1]
      refine TS.callW fy (Dws.self (by simp)) ?_
      simp [hl, q1]
      refine condK_of (fun q2 => ?_) (fun q2 => ?_)
      · simp at q2
        simp [hl, q1, q2, zV]
      simp at q2
      simp [hl, q1, q2]
      refine TS.callW fd (Dws.self (by simp)) ?_
      simp [hl, q1, q2]
    · have hm : (match a.l.map (evalV rs) with
        | [p, q] => if p.2 ≠ 0 then (zV, p.2) else if q.2 ≠ 0 then (zV, q.2) else doV a.op p.1 q.1
        | _ => (zV, 3)) = (zV, (3 : Int)) := by
        split
        · rename_i p q h
          have := congrArg List.length h
          simp at this
          omega
        · rfl
      rw [hm]
      have k5 : ¬ (a.l.length : Int) = 2 := by omega
      simp [k1, k2, k4, k5, k7, k8, zV]
  · rw [if_neg k3]
    by_cases k7 : a.op < 7
    · simp [k1, k2, k7, zV, -ifAV]
    · have k8 : 9 < a.op := by omega
      simp [k1, k2, k7, k8, zV, -ifAV]
mutual
def truthV (rs : List (List Val)) : Ex' → Int
  | .mk op _ _ _ _ _ l => if (l.length : Int) ≠ argsE op then 2
    else if 1 ≤ op ∧ op ≤ 6 then (match evalVL rs l with
      | [a, b] => if a.2 ≠ 0 ∨ b.2 ≠ 0 then 2 else testT op a.1 b.1
      | _ => 2)
    else if op = 10 then (match truthVL rs l with | [a, b] => andT [a, b] | _ => 2)
    else if op = 11 then (match truthVL rs l with | [a, b] => orT [a, b] | _ => 2)
    else if op = 12 then (match truthVL rs l with | [a] => notT a | _ => 2)
    else if op = 13 then (match evalVL rs l with | [a] => if a.2 = 0 ∧ a.1.k = 0 then 1 else 0 | _ => 2)
    else if op = 14 then (match evalVL rs l with | [a] => if a.2 = 0 ∧ a.1.k = 0 then 0 else 1 | _ => 2)
    else 2
def truthVL (rs : List (List Val)) : List Ex' → List Int
  | [] => []
  | e :: l => truthV rs e :: truthVL rs l
end
theorem truthVL_map (rs : List (List Val)) : ∀ l, truthVL rs l = l.map (truthV rs)
  | [] => rfl
  | e :: l => by rw [truthVL, truthVL_map rs l]; rfl
theorem truthV_eq (rs : List (List Val)) (e : Ex') : truthV rs e = if (e.l.length : Int) ≠ argsE e.op then 2
    else if 1 ≤ e.op ∧ e.op ≤ 6 then (match e.l.map (evalV rs) with
      | [a, b] => if a.2 ≠ 0 ∨ b.2 ≠ 0 then 2 else testT e.op a.1 b.1
      | _ => 2)
    else if e.op = 10 then (match e.l.map (truthV rs) with | [a, b] => andT [a, b] | _ => 2)
    else if e.op = 11 then (match e.l.map (truthV rs) with | [a, b] => orT [a, b] | _ => 2)
    else if e.op = 12 then (match e.l.map (truthV rs) with | [a] => notT a | _ => 2)
    else if e.op = 13 then (match e.l.map (evalV rs) with | [a] => if a.2 = 0 ∧ a.1.k = 0 then 1 else 0 | _ => 2)
    else if e.op = 14 then (match e.l.map (evalV rs) with | [a] => if a.2 = 0 ∧ a.1.k = 0 then 0 else 1 | _ => 2)
    else 2 := by
  cases e with
  | mk op tab name t c v l => rw [truthV, evalVL_map, truthVL_map]; rfl
theorem S_truth1 (rs : List (List Val)) (e : Ex') (i : Nat) (hi : i < e.l.length) (J : List HO) (h : T Try.prog 44 [(e.l[i]).av, .sl .no (rows' rs)] (.int .i64 (truthV rs e.l[i]))) :
    TS Try.prog 88 [.int .i64 i, .ptr 0 0, .ptr 1 0] (.box e.cs :: .box [.sl .no (rows' rs)] :: J) (pt (.int .i64 (truthV rs e.l[i])) (.box e.cs :: .box [.sl .no (rows' rs)] :: J)) := by
  simp only [Ex'.av_eq] at h
  refine (TS.body mix Try.func88 (by kernel_rfl) rfl (by kernel_rfl) (by simp) ?_)
  simp [hi]
  refine TDK.callW h (Dws.self (by simp)) ?_
  simp
theorem T_etest (rs : List (List Val)) (hr : RowsOk rs) (e x y : Ex') (hl : e.l = [x, y]) (hx : OkE x) (hy : OkE y) : T Try.prog 90 [e.av, .sl .no (rows' rs)] (.int .i64 (if (evalV rs x).2 ≠ 0 ∨ (evalV rs y).2 ≠ 0 then 2 else testT e.op (evalV rs x).1 (evalV rs y).1)) := by
  have fx := T_eval rs hr x hx
  have fy := T_eval rs hr y hy
  have ft := T_ltest e.op (evalV rs x).1 (evalV rs y).1
  simp only [Ex'.av_eq] at fx fy
  generalize evalV rs x = p at *
  generalize evalV rs y = q at *
  refine T.intro (TS.body mix Try.func90 (by kernel_rfl) rfl (by kernel_rfl) (by simp) ?_)
  simp [hl]
  refine TS.callW fx (Dws.self (by simp)) ?_
  simp [hl]
  refine TS.callW fy (Dws.self (by simp)) ?_
  simp [hl]
  by_cases q1 : p.2 = 0
  · by_cases q2 : q.2 = 0
    · simp [q1, q2, hl]
      refine TS.callW ft (Dws.self (by simp)) ?_
      simp
    · simp [q1, q2, hl]
  · simp [q1, hl, -ifAV]
theorem argsE_two {o : Int} (h : 1 ≤ o ∧ o ≤ 6 ∨ o = 10 ∨ o = 11) : argsE o = 2 := by
  unfold argsE; rw [if_neg (by omega), if_pos (by omega)]
theorem argsE_one {o : Int} (h : o = 12 ∨ o = 13 ∨ o = 14) : argsE o = 1 := by
  unfold argsE; rw [if_pos (by omega)]
theorem two_of {α : Type} {l : List α} (h : (l.length : Int) = 2) : ∃ x y, l = [x, y] := by
  match l, h with
  | [x, y], _ => exact ⟨x, y, rfl⟩
  | [], h => simp at h
  | [x], h => simp at h
  | x :: y :: z :: r, h => simp at h; omega
theorem one_of {α : Type} {l : List α} (h : (l.length : Int) = 1) : ∃ x, l = [x] := by
  match l, h with
  | [x], _ => exact ⟨x, rfl⟩
  | [], h => simp at h
  | x :: y :: r, h => simp at h; omega
theorem T_truthE (rs : List (List Val)) (hr : RowsOk rs) (e : Ex') : OkE e → T Try.prog 44 [e.av, .sl .no (rows' rs)] (.int .i64 (truthV rs e)) := by
  induction e using Ex'.ind with
  | h a ih =>
  intro ha
  have fa := T_args a.op
  have hR := truthV_eq rs a
  generalize truthV rs a = R at *
  refine T.intro (TS.bodyM [100020, 1201001, 1201003, 1201004] mix Try.func44 (by kernel_rfl) rfl (by kernel_rfl) (by simp) ?_)
  simp
  refine TDK.callW fa (Dws.self (by simp)) ?_
  simp
  refine condK_of (fun h => ?_) (fun h => ?_)
  · simp at h
    rw [if_pos h] at hR
    simp [hR]
  simp at h
  rw [if_neg (by simpa using h)] at hR
  by_cases k1 : 1 ≤ a.op ∧ a.op ≤ 6
  · rw [if_pos k1] at hR
    rw [argsE_two (.inl k1)] at h
    obtain ⟨x, y, hl⟩ := two_of h
    have f := T_etest rs hr a x y hl (ha.sub (by rw [hl]; simp)) (ha.sub (by rw [hl]; simp))
    simp only [Ex'.av_eq] at f
    rw [hl] at hR
    simp only [List.map_cons, List.map_nil] at hR
    rw [← hR] at f
    have hop : a.op = 1 ∨ a.op = 2 ∨ a.op = 3 ∨ a.op = 4 ∨ a.op = 5 ∨ a.op = 6 := by omega
    rcases hop with k | k | k | k | k | k
    all_goals
      simp [k]
      simp only [Ex'.cs, k] at f
      refine TS.callW f (Dws.self (by simp)) ?_
      simp
  rw [if_neg k1] at hR
  have k1' : ¬ a.op = 1 ∧ ¬ a.op = 2 ∧ ¬ a.op = 3 ∧ ¬ a.op = 4 ∧ ¬ a.op = 5 ∧ ¬ a.op = 6 := by omega
  by_cases k2 : a.op = 10
  · rw [if_pos k2] at hR
    rw [argsE_two (.inr (.inl k2))] at h
    obtain ⟨x, y, hl⟩ := two_of h
    have c0 := S_truth1 rs a 0 (by rw [hl]; simp) [] (ih _ (List.getElem_mem _) (ha.sub (List.getElem_mem _)))
    have c1 := S_truth1 rs a 1 (by rw [hl]; simp) [] (ih _ (List.getElem_mem _) (ha.sub (List.getElem_mem _)))
    simp only [hl, List.getElem_cons_zero, List.getElem_cons_succ, Int.natCast_zero] at c0 c1
    rw [hl] at hR
    simp only [List.map_cons, List.map_nil] at hR
    have f := T_land [truthV rs x, truthV rs y] (by simp)
    rw [← hR] at f
    simp [k2]
    refine TS.pt c0 ?_
    simp [k2]
    refine TS.pt c1 ?_
    simp [k2]
    refine TS.callW f (by repeat (first | exact .self rfl | constructor)) ?_
    simp
  rw [if_neg k2] at hR
  by_cases k3 : a.op = 11
  · rw [if_pos k3] at hR
    rw [argsE_two (.inr (.inr k3))] at h
    obtain ⟨x, y, hl⟩ := two_of h
    have c0 := S_truth1 rs a 0 (by rw [hl]; simp) [] (ih _ (List.getElem_mem _) (ha.sub (List.getElem_mem _)))
    have c1 := S_truth1 rs a 1 (by rw [hl]; simp) [] (ih _ (List.getElem_mem _) (ha.sub (List.getElem_mem _)))
    simp only [hl, List.getElem_cons_zero, List.getElem_cons_succ, Int.natCast_zero] at c0 c1
    rw [hl] at hR
    simp only [List.map_cons, List.map_nil] at hR
    have f := T_lor [truthV rs x, truthV rs y] (by simp)
    rw [← hR] at f
    simp [k3]
    refine TS.pt c0 ?_
    simp [k3]
    refine TS.pt c1 ?_
    simp [k3]
    refine TS.callW f (by repeat (first | exact .self rfl | constructor)) ?_
    simp
  rw [if_neg k3] at hR
  by_cases k4 : a.op = 12
  · rw [if_pos k4] at hR
    rw [argsE_one (.inl k4)] at h
    obtain ⟨x, hl⟩ := one_of h
    have c0 := S_truth1 rs a 0 (by rw [hl]; simp) [] (ih _ (List.getElem_mem _) (ha.sub (List.getElem_mem _)))
    simp only [hl, List.getElem_cons_zero, Int.natCast_zero] at c0
    rw [hl] at hR
    simp only [List.map_cons, List.map_nil] at hR
    have f := T_lnot (truthV rs x)
    rw [← hR] at f
    simp [k4]
    refine TS.pt c0 ?_
    simp [k4]
    refine TS.callW f (by repeat (first | exact .self rfl | constructor)) ?_
    simp
  rw [if_neg k4] at hR
  by_cases k5 : a.op = 13 ∨ a.op = 14
  · rw [argsE_one (.inr k5)] at h
    obtain ⟨x, hl⟩ := one_of h
    have fx := T_eval rs hr x (ha.sub (by rw [hl]; simp))
    have fn := T_isNull (evalV rs x).1
    simp only [Ex'.av_eq] at fx
    rw [hl] at hR
    simp only [List.map_cons, List.map_nil] at hR
    generalize evalV rs x = p at *
    have hN : decide (p.1.k = 0) = true ∨ decide (p.1.k = 0) = false := by cases decide (p.1.k = 0) <;> simp
    obtain ⟨nb, hnb⟩ : ∃ nb, decide (p.1.k = 0) = nb := ⟨_, rfl⟩
    rw [hnb] at fn
    have fo := T_lof nb
    have fo' := T_lof false
    rcases k5 with k | k
    · rw [if_pos k] at hR
      simp [k, hl]
      refine TDK.callW fx (Dws.self (by simp)) ?_
      by_cases q : p.2 = 0
      · have hR' : R = if nb = true then 1 else 0 := by rw [hR, ← hnb]; simp [q]
        simp [k, hl, q]
        refine GTK.callW (fun _ => ⟨fn, Dws.self (by simp)⟩) ?_
        simp [k, hl, q]
        refine TS.callW fo (Dws.self (by simp)) ?_
        simp [k, hl, q, hR']
      · have hR' : R = 0 := by rw [hR]; simp [q]
        simp [k, hl, q]
        refine GTK.callW (fun h => nomatch h) (ys := []) (r := .bool true) ?_
        simp [k, hl, q]
        refine TS.callW fo' (Dws.self (by simp)) ?_
        simp [k, hl, q, hR']
    · rw [if_neg (by omega), if_pos k] at hR
      simp [k, hl]
      refine TDK.callW fx (Dws.self (by simp)) ?_
      by_cases q : p.2 = 0
      · have hR' : R = notT (if nb = true then 1 else 0) := by rw [hR, ← hnb]; by_cases q2 : p.1.k = 0 <;> simp [q, q2, notT]
        have fnot := T_lnot (if nb = true then 1 else 0)
        simp [k, hl, q]
        refine GTK.callW (fun _ => ⟨fn, Dws.self (by simp)⟩) ?_
        simp [k, hl, q]
        refine TS.callW fo (Dws.self (by simp)) ?_
        simp [k, hl, q]
        refine TS.callW fnot (Dws.self (by simp)) ?_
        simp [hR']
      · have hR' : R = 1 := by rw [hR]; simp [q]
        have fnot := T_lnot 0
        simp [k, hl, q]
        refine GTK.callW (fun h => nomatch h) (ys := []) (r := .bool true) ?_
        simp [k, hl, q]
        refine TS.callW fo' (Dws.self (by simp)) ?_
        simp [k, hl, q]
        refine TS.callW fnot (Dws.self (by simp)) ?_
        simp [hR', notT]
  have k5' : ¬ a.op = 13 ∧ ¬ a.op = 14 := by omega
  rw [if_neg k5'.1, if_neg k5'.2] at hR
  simp [k1', k2, k3, k4, k5', hR]
theorem both_and (a b : Int) : bothT a b = andT [a, b] := by
  unfold bothT andT heldT
  simp only [List.mem_cons, List.not_mem_nil, or_false, List.map_cons, List.map_nil, tru]
  grind
theorem either_or (a b : Int) : eitherT a b = orT [a, b] := by
  unfold eitherT orT heldT
  simp only [List.mem_cons, List.not_mem_nil, or_false, List.map_cons, List.map_nil, tru]
  grind
set_option maxHeartbeats 2000000 in
theorem T_rtruth (rs : List (List Val)) (hr : RowsOk rs) (e : Ex') : OkE e → T Try.prog 43 [e.av, .sl .no (rows' rs)] (.int .i64 (truthV rs e)) := by
  induction e using Ex'.ind with
  | h a ih =>
  intro ha
  have fa := T_rargs a.op
  have hR := truthV_eq rs a
  generalize truthV rs a = R at *
  refine T.intro (TS.body mix Try.func43 (by kernel_rfl) rfl (by kernel_rfl) (by simp) ?_)
  simp
  refine TDK.callW fa (Dws.self (by simp)) ?_
  simp
  refine condK_of (fun h => ?_) (fun h => ?_)
  · simp at h
    rw [if_pos h] at hR
    simp [hR]
  simp at h
  rw [if_neg (by simpa using h)] at hR
  by_cases k1 : 1 ≤ a.op ∧ a.op ≤ 6
  · rw [if_pos k1] at hR
    rw [argsE_two (.inl k1)] at h
    obtain ⟨x, y, hl⟩ := two_of h
    have fx := T_reval rs hr x (ha.sub (by rw [hl]; simp))
    have fy := T_reval rs hr y (ha.sub (by rw [hl]; simp))
    have ix := evalV_in hr x (ha.sub (by rw [hl]; simp))
    have hrl := reach_lt
    have ft := T_rtest a.op (evalV rs x).1 (evalV rs y).1 (by have := ix.2.2; omega)
    simp only [Ex'.av_eq] at fx fy
    rw [hl] at hR
    simp only [List.map_cons, List.map_nil] at hR
    generalize evalV rs x = p at *
    generalize evalV rs y = q at *
    simp [k1, hl]
    refine TS.callW fx (Dws.self (by simp)) ?_
    simp [k1, hl]
    refine TS.callW fy (Dws.self (by simp)) ?_
    simp [k1, hl]
    by_cases q1 : p.2 = 0
    · by_cases q2 : q.2 = 0
      · simp [q1, q2, hl]
        refine TS.callW ft (Dws.self (by simp)) ?_
        simp [hR, q1, q2]
      · simp [q1, q2, hl, hR]
    · simp [q1, hl, hR, -ifAV]
  rw [if_neg k1] at hR
  have k1' : (1 ≤ a.op) = False ∨ (1 ≤ a.op) = True ∧ (a.op ≤ 6) = False := by
    by_cases h1 : 1 ≤ a.op
    · exact .inr ⟨eq_true h1, eq_false fun h2 => k1 ⟨h1, h2⟩⟩
    · exact .inl (eq_false h1)
  by_cases k2 : a.op = 10
  · rw [if_pos k2] at hR
    rw [argsE_two (.inr (.inl k2))] at h
    obtain ⟨x, y, hl⟩ := two_of h
    have c0 := ih x (by rw [hl]; simp) (ha.sub (by rw [hl]; simp))
    have c1 := ih y (by rw [hl]; simp) (ha.sub (by rw [hl]; simp))
    have f := T_rboth (truthV rs x) (truthV rs y)
    rw [both_and] at f
    rw [hl] at hR
    simp only [List.map_cons, List.map_nil] at hR
    rw [← hR] at f
    simp only [Ex'.av_eq] at c0 c1
    simp [k2, hl]
    refine TDK.callW c0 (Dws.self (by simp)) ?_
    simp [k2, hl]
    refine TDK.callW c1 (Dws.self (by simp)) ?_
    simp [k2, hl]
    refine TDK.callW f (Dws.self (by simp)) ?_
    simp
  rw [if_neg k2] at hR
  by_cases k3 : a.op = 11
  · rw [if_pos k3] at hR
    rw [argsE_two (.inr (.inr k3))] at h
    obtain ⟨x, y, hl⟩ := two_of h
    have c0 := ih x (by rw [hl]; simp) (ha.sub (by rw [hl]; simp))
    have c1 := ih y (by rw [hl]; simp) (ha.sub (by rw [hl]; simp))
    have f := T_reither (truthV rs x) (truthV rs y)
    rw [either_or] at f
    rw [hl] at hR
    simp only [List.map_cons, List.map_nil] at hR
    rw [← hR] at f
    simp only [Ex'.av_eq] at c0 c1
    simp [k3, hl]
    refine TDK.callW c0 (Dws.self (by simp)) ?_
    simp [k3, hl]
    refine TDK.callW c1 (Dws.self (by simp)) ?_
    simp [k3, hl]
    refine TDK.callW f (Dws.self (by simp)) ?_
    simp
  rw [if_neg k3] at hR
  by_cases k4 : a.op = 12
  · rw [if_pos k4] at hR
    rw [argsE_one (.inl k4)] at h
    obtain ⟨x, hl⟩ := one_of h
    have c0 := ih x (by rw [hl]; simp) (ha.sub (by rw [hl]; simp))
    rw [hl] at hR
    simp only [List.map_cons, List.map_nil] at hR
    have f := T_rnot (truthV rs x)
    rw [← hR] at f
    simp only [Ex'.av_eq] at c0
    simp [k4, hl]
    refine TS.callW c0 (Dws.self (by simp)) ?_
    simp [k4, hl]
    refine TS.callW f (Dws.self (by simp)) ?_
    simp
  rw [if_neg k4] at hR
  by_cases k5 : a.op = 13 ∨ a.op = 14
  · rw [argsE_one (.inr k5)] at h
    obtain ⟨x, hl⟩ := one_of h
    have fx := T_reval rs hr x (ha.sub (by rw [hl]; simp))
    simp only [Ex'.av_eq] at fx
    rw [hl] at hR
    simp only [List.map_cons, List.map_nil] at hR
    generalize evalV rs x = p at *
    rcases k5 with k | k
    · rw [if_pos k] at hR
      simp [k, hl]
      refine TS.callW fx (Dws.self (by simp)) ?_
      by_cases q : p.2 = 0
      · by_cases q2 : p.1.k = 0
        · simp [k, hl, q, q2, hR]
        · simp [k, hl, q, q2, hR]
      · simp [k, hl, q, hR, -ifAV]
    · rw [if_neg (by omega), if_pos k] at hR
      simp [k, hl]
      refine TS.callW fx (Dws.self (by simp)) ?_
      by_cases q : p.2 = 0
      · by_cases q2 : p.1.k = 0
        · simp [k, hl, q, q2, hR]
        · simp [k, hl, q, q2, hR]
      · simp [k, hl, q, hR, -ifAV]
  have k5' : ¬ a.op = 13 ∧ ¬ a.op = 14 := by omega
  rw [if_neg k5'.1, if_neg k5'.2] at hR
  rcases k1' with k1' | k1' <;> simp [k1', k2, k3, k4, k5', hR, -ifAV]
end Go.Proofs.Ytgmhmdmfnmlhmac.PL
