/- Kinds of expressions. -/
import Derived.Test.YtaahlhhpmooliaaFNam8
namespace Go.Proofs.Ytaahlhhpmooliaa.PL
open Go.Proofs
set_option linter.unusedVariables false
set_option linter.unusedSimpArgs false
def numK (k : Int) : Bool := decide (k = 1) || decide (k = 0)
def truK (k : Int) : Bool := decide (k = 3) || decide (k = 0)
def oneK (b : Bool) (k : Int) : Option Int := if b = true then some k else none
@[simp] theorem oneK_isSome (b : Bool) (k : Int) : (oneK b k).isSome = b := by unfold oneK; cases b <;> rfl
def ofK (op a b : Int) : Option Int :=
  if op ≤ 6 then oneK ((decide (a = b) || decide (a = 0) || decide (b = 0)) && !decide (a = 3) && !decide (b = 3)) 3
  else if op ≤ 9 then oneK (numK a && numK b) 1
  else if op ≤ 11 then oneK (truK a && truK b) 3
  else if op = 12 then oneK (truK a) 3
  else if op ≤ 14 then oneK (!decide (a = 3)) 3
  else if op = 17 then some 1
  else if op = 18 then oneK (!decide (a = 3)) 1
  else if op = 19 then oneK (numK a) 1
  else oneK (!decide (a = 3)) a
def colK (ts : List Tab) (t c : Int) : Option Int := if t < 0 ∨ (ts.length : Int) ≤ t ∨ c < 0 then none else ((ts.getD t.toNat noTab).cols[c.toNat]?).map (·.kind)
section
variable (ts : List Tab)
mutual
def kindE : Ex' → Option Int
  | .mk op tab name t c v l => if op < 1 ∨ 21 < op ∨ ¬ (l.length : Int) = argsE op then none else if op = 16 then (if rightV v = true then some v.k else none) else if op = 15 then colK ts t c else match kindL l with
    | none => none
    | some ks => if 17 ≤ op ∧ Ex'.sumsL l = true then none else ofK op (ks.headD 0) (ks.getLastD 0)
def kindL : List Ex' → Option (List Int)
  | [] => some []
  | e :: l => match kindE e with
    | none => none
    | some k => (kindL l).map fun m => k :: m
end
end
variable {ts : List Tab}
theorem kindE_eq (e : Ex') : kindE ts e = if e.op < 1 ∨ 21 < e.op ∨ ¬ (e.l.length : Int) = argsE e.op then none else if e.op = 16 then (if rightV e.v = true then some e.v.k else none) else if e.op = 15 then colK ts e.t e.c else match kindL ts e.l with
    | none => none
    | some ks => if 17 ≤ e.op ∧ Ex'.sumsL e.l = true then none else ofK e.op (ks.headD 0) (ks.getLastD 0) := by cases e; rw [kindE]; rfl
theorem kindL_snoc : ∀ (l : List Ex') (x : Ex'), kindL ts (l ++ [x]) = match kindL ts l with
    | none => none
    | some m => (kindE ts x).map fun y => m ++ [y]
  | [], x => by
    simp only [List.nil_append, kindL]
    cases kindE ts x <;> simp
  | e :: l, x => by
    simp only [List.cons_append, kindL, kindL_snoc l x]
    cases kindE ts e with
    | none => rfl
    | some e' =>
      cases kindL ts l with
      | none => rfl
      | some m => cases kindE ts x <;> simp
theorem kindL_none : ∀ {l : List Ex'} {i : Nat} (h : i < l.length), kindE ts l[i] = none → kindL ts l = none
  | e :: l, 0, _, h => by simp only [List.getElem_cons_zero] at h; simp [kindL, h]
  | e :: l, i + 1, hl, h => by
    simp only [List.getElem_cons_succ] at h
    have := kindL_none (by simpa using hl) h
    simp only [kindL, this]
    cases kindE ts e <;> rfl
theorem kindL_len : ∀ {l : List Ex'} {m : List Int}, kindL ts l = some m → m.length = l.length
  | [], m, h => by simp [kindL] at h; subst h; rfl
  | e :: l, m, h => by
    simp only [kindL] at h
    cases he : kindE ts e with
    | none => rw [he] at h; cases h
    | some k =>
      rw [he] at h
      dsimp only at h
      cases hm : kindL ts l with
      | none => rw [hm] at h; cases h
      | some q => rw [hm] at h; simp at h; subst h; simp [kindL_len hm]
theorem T_number (k : Int) : T Try.prog 153 [.int .i64 k] (.bool (numK k)) := by
  refine T.intro (TS.body mix Try.func153 (by kernel_rfl) rfl (by kernel_rfl) (by simp) ?_)
  simp [numK]
theorem T_truth12 (k : Int) : T Try.prog 130 [.int .i64 k] (.bool (truK k)) := by
  refine T.intro (TS.body mix Try.func130 (by kernel_rfl) rfl (by kernel_rfl) (by simp) ?_)
  simp [truK]
theorem T_of1 (k : Int) : T Try.prog 152 [.int .i64 k] (.bool (decide (k = 3))) := by
  refine T.intro (TS.body mix Try.func152 (by kernel_rfl) rfl (by kernel_rfl) (by simp) ?_)
  simp
theorem split3 (t : Int) (n : Nat) : t < 0 ∨ (¬ t < 0 ∧ (n : Int) ≤ t) ∨ ∃ k : Nat, k < n ∧ t = k := by
  by_cases h : t < 0
  · exact .inl h
  · by_cases h2 : (n : Int) ≤ t
    · exact .inr (.inl ⟨h, h2⟩)
    · exact .inr (.inr ⟨t.toNat, by omega, by omega⟩)
theorem colK_in {k j : Nat} (hk : k < ts.length) (hj : j < (ts[k]).cols.length) : colK ts k j = some ((ts[k]).cols[j]).kind := by
  unfold colK
  rw [if_neg (by omega)]
  have : (ts.getD (k : Int).toNat noTab) = ts[k] := by simp [hk]
  rw [this]
  simp [hj]
theorem colK_t0 {t c : Int} (h : t < 0 ∨ (ts.length : Int) ≤ t ∨ c < 0) : colK ts t c = none := by
  unfold colK
  rw [if_pos h]
theorem colK_out {k : Nat} {c : Int} (hk : k < ts.length) (hj : ((ts[k]).cols.length : Int) ≤ c) : colK ts k c = none := by
  unfold colK
  have h0 : ¬ c < 0 := by omega
  rw [if_neg (by omega)]
  have : (ts.getD (k : Int).toNat noTab) = ts[k] := by simp [hk]
  rw [this, List.getElem?_eq_none (by omega)]
  rfl
set_option maxRecDepth 100000 in
theorem T_leaf (a : Ex') (hl : ts.length < 4611686018427387904) (hc : ∀ t, t ∈ ts → t.cols.length < 4611686018427387904) : T Try.prog 134 [.sl .no (avs Tab.av ts), a.av] (.tup [.int .i64 (((if a.op = 16 then (if rightV a.v = true then some a.v.k else none) else colK ts a.t a.c)).getD 0), .int .i64 (if ((if a.op = 16 then (if rightV a.v = true then some a.v.k else none) else colK ts a.t a.c)).isSome = true then 0 else 3)]) := by
  have kr := T_right a.v
  refine T.intro (TS.body mix Try.func134 (by kernel_rfl) rfl (by kernel_rfl) (by simp) ?_)
  by_cases h1 : a.op = 16
  · simp [h1]
    refine TS.callW kr (Dws.self (by simp)) ?_
    cases rightV a.v <;> simp [h1]
  · rcases split3 a.t ts.length with h2 | ⟨h2, h3⟩ | ⟨k, hk, h2⟩
    · rw [colK_t0 (.inl h2)]
      cases hq : ts[a.t.toNat]? <;> simp [h1, h2, hq]
    · rw [colK_t0 (.inr (.inl h3))]
      cases hq : ts[a.t.toNat]? <;> simp [h1, h2, h3, hq]
    · have n1 : ¬ (k : Int) < 0 := by omega
      have n2 : ¬ ts.length ≤ k := by omega
      rcases split3 a.c (ts[k]).cols.length with h4 | ⟨h4, h5⟩ | ⟨j, hj, h4⟩
      · rw [colK_t0 (.inr (.inr h4))]
        simp [h1, h2, n1, n2, h4, hk]
      · rw [h2, colK_out hk h5]
        cases hq : (ts[k]).cols[a.c.toNat]? <;> simp [h1, h2, n1, n2, hk, h4, h5, hq]
      · have n3 : ¬ (j : Int) < 0 := by omega
        have n4 : ¬ (ts[k]).cols.length ≤ j := by omega
        rw [h2, h4, colK_in hk hj]
        simp [h1, h2, n1, n2, hk, hj, h4, n3, n4]
theorem T_any3 (l : List Int) (hl : l.length < 4611686018427387904) : T Try.prog 104 [.sl .no (ints' l), .fn (.func 152) [] []] (.bool (l.any fun k => decide (k = 3))) :=
  T.intro (TS.pt (S_containsFunc [] 152 [] l (fun k => decide (k = 3)) hl fun x _ => TS.call' (T_of1 x) rfl ⟨rfl, rfl⟩) (by simp))
set_option maxRecDepth 100000 in
theorem T_kof2 (op a b : Int) (h : 1 ≤ op ∧ op ≤ 11) : ∃ v : Int, T Try.prog 136 [.int .i64 op, .sl .no (ints' [a, b])] (.tup [.int .i64 v, .bool (ofK op a b).isSome]) ∧ ∀ k, ofK op a b = some k → v = k := by
  have n1 := T_number a
  have n2 := T_number b
  have t1 := T_truth12 a
  have t2 := T_truth12 b
  have ka := T_any3 [a, b] (by simp)
  refine ⟨if op ≤ 6 then 3 else if op ≤ 9 then 1 else if truK b = true then 3 else 0, ?_, ?_⟩
  · have : op = 1 ∨ op = 2 ∨ op = 3 ∨ op = 4 ∨ op = 5 ∨ op = 6 ∨ op = 7 ∨ op = 8 ∨ op = 9 ∨ op = 10 ∨ op = 11 := by omega
    refine T.intro (TS.body mix Try.func136 (by kernel_rfl) rfl (by kernel_rfl) (by simp) ?_)
    rcases this with rfl | rfl | rfl | rfl | rfl | rfl | rfl | rfl | rfl | rfl | rfl
    case inr.inr.inr.inr.inr.inr.inl | inr.inr.inr.inr.inr.inr.inr.inl | inr.inr.inr.inr.inr.inr.inr.inr.inl =>
      simp
      refine TS.callW n1 (Dws.self (by simp)) ?_
      simp
      refine GTK.callW (fun _ => ⟨n2, Dws.self (by simp)⟩) ?_
      simp [ofK]
    case inr.inr.inr.inr.inr.inr.inr.inr.inr.inl | inr.inr.inr.inr.inr.inr.inr.inr.inr.inr =>
      simp
      refine TS.callW t2 (Dws.self (by simp)) ?_
      cases hb : truK b with
      | false => simp [ofK, hb]
      | true =>
        simp [ofK, hb]
        refine TS.callW t1 (Dws.self (by simp)) ?_
        simp [ofK, hb]
    all_goals
      simp
      refine ⟨fun x y => ⟨x, y⟩, ?_⟩
      refine GTK.callW (fun _ => ⟨ka, Dws.self (by simp)⟩) ?_
      simp [ofK, Bool.and_assoc]
  · intro k hk
    unfold ofK oneK at hk
    grind
set_option maxRecDepth 100000 in
theorem T_kof1 (op a : Int) (h : op = 12 ∨ op = 13 ∨ op = 14 ∨ op = 18 ∨ op = 19 ∨ op = 20 ∨ op = 21) : ∃ v : Int, T Try.prog 136 [.int .i64 op, .sl .no (ints' [a])] (.tup [.int .i64 v, .bool (ofK op a a).isSome]) ∧ ∀ k, ofK op a a = some k → v = k := by
  have n1 := T_number a
  have t1 := T_truth12 a
  have ka := T_of1 a
  refine ⟨if op ≤ 14 then 3 else if op ≤ 19 then 1 else a, ?_, ?_⟩
  · refine T.intro (TS.body mix Try.func136 (by kernel_rfl) rfl (by kernel_rfl) (by simp) ?_)
    rcases h with rfl | rfl | rfl | rfl | rfl | rfl | rfl
    case inl =>
      simp
      refine TS.callW t1 (Dws.self (by simp)) ?_
      simp [ofK]
    case inr.inr.inr.inr.inl =>
      simp
      refine TS.callW n1 (Dws.self (by simp)) ?_
      simp [ofK]
    all_goals
      simp
      first | refine TS.callW ka (Dws.self (by simp)) ?_ | refine TDK.callW ka (Dws.self (by simp)) ?_
      simp [ofK]
  · intro k hk
    unfold ofK oneK at hk
    grind
set_option maxRecDepth 100000 in
theorem T_kof0 : T Try.prog 136 [.int .i64 17, .sl .no (ints' [])] (.tup [.int .i64 1, .bool true]) := by
  refine T.intro (TS.body mix Try.func136 (by kernel_rfl) rfl (by kernel_rfl) (by simp) ?_)
  simp
theorem args_two {op : Int} {n : Nat} (h0 : ¬ op = 15) (h1 : ¬ op = 16) (h2 : ¬ (op < 1 ∨ 21 < op ∨ ¬ (n : Int) = argsE op)) : (n = 2 ∧ 1 ≤ op ∧ op ≤ 11) ∨ (n = 1 ∧ (op = 12 ∨ op = 13 ∨ op = 14 ∨ op = 18 ∨ op = 19 ∨ op = 20 ∨ op = 21)) ∨ (n = 0 ∧ op = 17) := by
  unfold argsE at h2
  split at h2
  · exact .inr (.inl ⟨by omega, by omega⟩)
  · split at h2
    · exact .inl ⟨by omega, by omega⟩
    · exact .inr (.inr ⟨by omega, by omega⟩)
/-- by the kinds of its parts -/
theorem T_kof {op : Int} {ks : List Int} (h0 : ¬ op = 15) (h1 : ¬ op = 16) (h2 : ¬ (op < 1 ∨ 21 < op ∨ ¬ (ks.length : Int) = argsE op)) : ∃ v : Int, T Try.prog 136 [.int .i64 op, .sl .no (ints' ks)] (.tup [.int .i64 v, .bool (ofK op (ks.headD 0) (ks.getLastD 0)).isSome]) ∧ ∀ k, ofK op (ks.headD 0) (ks.getLastD 0) = some k → v = k := by
  rcases args_two h0 h1 h2 with ⟨h, h3⟩ | ⟨h, h3⟩ | ⟨h, rfl⟩
  · match ks, h with
    | [a, b], _ => exact T_kof2 op a b h3
  · match ks, h with
    | [a], _ => exact T_kof1 op a h3
  · match ks, h with
    | [], _ => exact ⟨1, T_kof0, fun k hk => by simpa [ofK] using hk⟩
end Go.Proofs.Ytaahlhhpmooliaa.PL
