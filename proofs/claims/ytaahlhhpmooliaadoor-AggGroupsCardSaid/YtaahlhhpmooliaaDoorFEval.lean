/- What expressions are worth. -/
import Derived.Test.YtaahlhhpmooliaaDoorFTree3
import Derived.Test.YtaahlhhpmooliaaDoorFLogic3
import Derived.Test.YtaahlhhpmooliaaDoorFArith
namespace Go.Proofs.YtaahlhhpmooliaaDoor.PL
open Go.Proofs
set_option linter.unusedVariables false
set_option linter.unusedSimpArgs false
structure RowsOk (rs : List (List Val)) : Prop where
  len : rs.length < 4611686018427387904
  row : ∀ r, r ∈ rs → r.length < 4611686018427387904
  val : ∀ r, r ∈ rs → ∀ v, v ∈ r → valIn v
theorem zV_in : valIn zV := by simp [valIn, zV]
def atV (rs : List (List Val)) (t c : Int) : Val := if 0 ≤ t ∧ 0 ≤ c then ((rs.getD t.toNat []).getD c.toNat zV) else zV
theorem atV_in {rs : List (List Val)} (h : RowsOk rs) (t c : Int) : valIn (atV rs t c) := by
  unfold atV
  split
  · rw [List.getD_eq_getElem?_getD, List.getD_eq_getElem?_getD]
    cases h1 : rs[t.toNat]? with
    | none => simp; exact zV_in
    | some r =>
      simp only [Option.getD_some]
      cases h2 : r[c.toNat]? with
      | none => exact zV_in
      | some v => exact h.val r (List.mem_of_getElem? h1) v (List.mem_of_getElem? h2)
  · exact zV_in
set_option maxRecDepth 10000 in
theorem T_at (rs : List (List Val)) (t c : Int) : T Tryd.prog 38 [.sl .no (rows' rs), .int .i64 t, .int .i64 c] (atV rs t c).av := by
  refine T.intro (TS.body mix Tryd.func38 (by kernel_rfl) rfl (by kernel_rfl) (by simp) ?_)
  by_cases h1 : 0 ≤ t ∧ t < rs.length
  · obtain ⟨n, rfl⟩ : ∃ n : Nat, t = n := ⟨t.toNat, by omega⟩
    have hn : n < rs.length := by omega
    by_cases h2 : 0 ≤ c ∧ c < (rs[n]).length
    · obtain ⟨m, rfl⟩ : ∃ m : Nat, c = m := ⟨c.toNat, by omega⟩
      have hm : m < (rs[n]).length := by omega
      have e1 : ¬ (n : Int) < 0 := by omega
      have e2 : ¬ (m : Int) < 0 := by omega
      have e3 : ¬ rs.length ≤ n := by omega
      have e4 : ¬ (rs[n]).length ≤ m := by omega
      simp [hn, hm, e1, e2, e3, e4, atV]
    · have e1 : ¬ (n : Int) < 0 := by omega
      have e3 : ¬ rs.length ≤ n := by omega
      have ev : atV rs n c = zV := by
        unfold atV
        split
        · rw [List.getD_eq_getElem?_getD, List.getD_eq_getElem?_getD, Int.toNat_natCast, List.getElem?_eq_getElem hn, Option.getD_some, List.getElem?_eq_none (by omega)]
          rfl
        · rfl
      rw [ev]
      by_cases h3 : c < 0
      · simp [hn, e1, e3, h3]
        refine TS.call' T_null (by simp) ?_
        simp [zV]
      · obtain ⟨m, rfl⟩ : ∃ m : Nat, c = m := ⟨c.toNat, by omega⟩
        have e2 : ¬ (m : Int) < 0 := by omega
        have e4 : (rs[n]).length ≤ m := by omega
        simp [hn, e1, e2, e3, e4]
        refine TS.call' T_null (by simp) ?_
        simp [zV]
  · have ev : atV rs t c = zV := by
      unfold atV
      split
      · have e0 : rs[t.toNat]? = none := List.getElem?_eq_none (by omega)
        rw [List.getD_eq_getElem?_getD, List.getD_eq_getElem?_getD, e0]
        rfl
      · rfl
    rw [ev]
    by_cases h3 : t < 0
    · simp [h3, -ifAV]
      refine TS.call' T_null (by simp) ?_
      simp [zV]
    · have h4 : (rs.length : Int) ≤ t := by omega
      simp [h3, h4, -ifAV]
      refine TS.call' T_null (by simp) ?_
      simp [zV]
set_option maxRecDepth 10000 in
theorem T_rat (rs : List (List Val)) (t c : Int) : T Tryd.prog 59 [.sl .no (rows' rs), .int .i64 t, .int .i64 c] (atV rs t c).av := by
  refine T.intro (TS.body mix Tryd.func59 (by kernel_rfl) rfl (by kernel_rfl) (by simp) ?_)
  by_cases h1 : 0 ≤ t ∧ t < rs.length
  · obtain ⟨n, rfl⟩ : ∃ n : Nat, t = n := ⟨t.toNat, by omega⟩
    have hn : n < rs.length := by omega
    have e1 : (0 : Int) ≤ n := by omega
    by_cases h2 : 0 ≤ c ∧ c < (rs[n]).length
    · obtain ⟨m, rfl⟩ : ∃ m : Nat, c = m := ⟨c.toNat, by omega⟩
      have hm : m < (rs[n]).length := by omega
      have e2 : (0 : Int) ≤ m := by omega
      simp [hn, hm, e1, e2, atV]
    · have ev : atV rs n c = zV := by
        unfold atV
        split
        · rw [List.getD_eq_getElem?_getD, List.getD_eq_getElem?_getD, Int.toNat_natCast, List.getElem?_eq_getElem hn, Option.getD_some, List.getElem?_eq_none (by omega)]
          rfl
        · rfl
      rw [ev]
      by_cases h3 : 0 ≤ c
      · obtain ⟨m, rfl⟩ : ∃ m : Nat, c = m := ⟨c.toNat, by omega⟩
        have e4 : ¬ m < (rs[n]).length := by omega
        simp [hn, e1, h3, e4, zV]
      · simp [hn, e1, h3, zV]
  · have ev : atV rs t c = zV := by
      unfold atV
      split
      · have e0 : rs[t.toNat]? = none := List.getElem?_eq_none (by omega)
        rw [List.getD_eq_getElem?_getD, List.getD_eq_getElem?_getD, e0]
        rfl
      · rfl
    rw [ev]
    by_cases h3 : 0 ≤ t
    · have h4 : ¬ t < (rs.length : Int) := by omega
      simp [h3, h4, zV, -ifAV]
    · simp [h3, zV, -ifAV]
mutual
def evalV (rs : List (List Val)) : Ex' → Val × Int
  | .mk op _ _ t c v l => if op = 15 then (atV rs t c, 0) else if op = 16 then (v, 0) else if 7 ≤ op ∧ op ≤ 9 then
      (match evalVL rs l with
      | [a, b] => if a.2 ≠ 0 then (zV, a.2) else if b.2 ≠ 0 then (zV, b.2) else doV op a.1 b.1
      | _ => (zV, 3)) else (zV, 3)
def evalVL (rs : List (List Val)) : List Ex' → List (Val × Int)
  | [] => []
  | e :: l => evalV rs e :: evalVL rs l
end
theorem evalVL_map (rs : List (List Val)) : ∀ l, evalVL rs l = l.map (evalV rs)
  | [] => rfl
  | e :: l => by rw [evalVL, evalVL_map rs l]; rfl
theorem evalV_eq (rs : List (List Val)) (e : Ex') : evalV rs e = if e.op = 15 then (atV rs e.t e.c, 0) else if e.op = 16 then (e.v, 0) else if 7 ≤ e.op ∧ e.op ≤ 9 then
      (match e.l.map (evalV rs) with
      | [a, b] => if a.2 ≠ 0 then (zV, a.2) else if b.2 ≠ 0 then (zV, b.2) else doV e.op a.1 b.1
      | _ => (zV, 3)) else (zV, 3) := by
  cases e with
  | mk op tab name t c v l => rw [evalV, evalVL_map]; rfl
theorem doV_in (op : Int) (a b : Val) : valIn (doV op a b).1 := by
  unfold doV
  split
  · simp [valIn]
  · split
    · simp [valIn]
    · dsimp only
      generalize (if op = 7 then a.i + b.i else if op = 8 then a.i - b.i else a.i * b.i) = x
      split
      · rename_i h; unfold isI at h; simp [valIn]; exact h
      · simp [valIn]
theorem evalV_in {rs : List (List Val)} (hr : RowsOk rs) (e : Ex') : OkE e → valIn (evalV rs e).1 := by
  intro he
  rw [evalV_eq]
  split
  · exact atV_in hr _ _
  · split
    · cases he; assumption
    · split
      · split
        · split
          · exact zV_in
          · split
            · exact zV_in
            · exact doV_in _ _ _
        · exact zV_in
      · exact zV_in

mutual
def truthV (rs : List (List Val)) : Ex' → Int
  | .mk op _ _ _ _ _ l => if (l.length : Int) ≠ argsE op then 2
    else if 1 ≤ op ∧ op ≤ 6 then (match evalVL rs l with
      | [a, b] => if a.2 ≠ 0 ∨ b.2 ≠ 0 then 2 else testT op a.1 b.1
      | _ => 2)
    else if op = 10 then (match truthVL rs l with | [a, b] => andT [a, b] | _ => 2)
    else if op = 11 then (match truthVL rs l with | [a, b] => orT [a, b] | _ => 2)
    else if op = 12 then (match truthVL rs l with | [a] => notT a | _ => 2)
    else if op = 13 then (match evalVL rs l with | [a] => if a.2 = 0 ∧ a.1.k = 0 then 1 else 0 | _ => 2)
    else if op = 14 then (match evalVL rs l with | [a] => if a.2 = 0 ∧ a.1.k = 0 then 0 else 1 | _ => 2)
    else 2
def truthVL (rs : List (List Val)) : List Ex' → List Int
  | [] => []
  | e :: l => truthV rs e :: truthVL rs l
end
theorem truthVL_map (rs : List (List Val)) : ∀ l, truthVL rs l = l.map (truthV rs)
  | [] => rfl
  | e :: l => by rw [truthVL, truthVL_map rs l]; rfl
theorem truthV_eq (rs : List (List Val)) (e : Ex') : truthV rs e = if (e.l.length : Int) ≠ argsE e.op then 2
    else if 1 ≤ e.op ∧ e.op ≤ 6 then (match e.l.map (evalV rs) with
      | [a, b] => if a.2 ≠ 0 ∨ b.2 ≠ 0 then 2 else testT e.op a.1 b.1
      | _ => 2)
    else if e.op = 10 then (match e.l.map (truthV rs) with | [a, b] => andT [a, b] | _ => 2)
    else if e.op = 11 then (match e.l.map (truthV rs) with | [a, b] => orT [a, b] | _ => 2)
    else if e.op = 12 then (match e.l.map (truthV rs) with | [a] => notT a | _ => 2)
    else if e.op = 13 then (match e.l.map (evalV rs) with | [a] => if a.2 = 0 ∧ a.1.k = 0 then 1 else 0 | _ => 2)
    else if e.op = 14 then (match e.l.map (evalV rs) with | [a] => if a.2 = 0 ∧ a.1.k = 0 then 0 else 1 | _ => 2)
    else 2 := by
  cases e with
  | mk op tab name t c v l => rw [truthV, evalVL_map, truthVL_map]; rfl

theorem argsE_two {o : Int} (h : 1 ≤ o ∧ o ≤ 6 ∨ o = 10 ∨ o = 11) : argsE o = 2 := by
  unfold argsE; rw [if_neg (by omega), if_pos (by omega)]
theorem argsE_one {o : Int} (h : o = 12 ∨ o = 13 ∨ o = 14) : argsE o = 1 := by
  unfold argsE; rw [if_pos (by omega)]
theorem two_of {α : Type} {l : List α} (h : (l.length : Int) = 2) : ∃ x y, l = [x, y] := by
  match l, h with
  | [x, y], _ => exact ⟨x, y, rfl⟩
  | [], h => simp at h
  | [x], h => simp at h
  | x :: y :: z :: r, h => simp at h; omega
theorem one_of {α : Type} {l : List α} (h : (l.length : Int) = 1) : ∃ x, l = [x] := by
  match l, h with
  | [x], _ => exact ⟨x, rfl⟩
  | [], h => simp at h
  | x :: y :: r, h => simp at h; omega
theorem both_and (a b : Int) : bothT a b = andT [a, b] := by
  unfold bothT andT heldT
  simp only [List.mem_cons, List.not_mem_nil, or_false, List.map_cons, List.map_nil, tru]
  grind
theorem either_or (a b : Int) : eitherT a b = orT [a, b] := by
  unfold eitherT orT heldT
  simp only [List.mem_cons, List.not_mem_nil, or_false, List.map_cons, List.map_nil, tru]
  grind
end Go.Proofs.YtaahlhhpmooliaaDoor.PL
