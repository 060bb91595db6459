/- How many pipes must go one after the other. -/
import Derived.Test.YtgmhmdmfnmlhmabFReady2
namespace Go.Proofs.Ytgmhmdmfnmlhmab.PL
open Go.Proofs
set_option linter.unusedVariables false
set_option linter.unusedSimpArgs false
theorem T_acyclic (p : Plan) (hp : PlanIn p) (hs : p.pipes.length ≤ 1000) : T Try.prog 48 [p.av] (.bool (decide ((order33 p.ns).length = p.pipes.length))) := by
  refine T.intro (TS.body mix Try.func48 (by kernel_rfl) rfl (by kernel_rfl) (by simp) ?_)
  simp
  refine TDK.call' (T_order33 p hp hs) (by simp) ?_
  simp
  omega
def hiF (F : Int → Int) (l : List Int) : Int := l.foldl (fun h n => max h (F n)) 0
theorem hiF_next {F : Int → Int} {l : List Int} {j : Nat} (h : j < l.length) : hiF F (l.take (j + 1)) = max (hiF F (l.take j)) (F l[j]) := by
  unfold hiF
  rw [take_next h, List.foldl_append]; rfl
def stF (ns : List (List Int)) (F : Int → Int) (i : Nat) : Int → Int := fun x => if x = i then 1 + hiF F (ns.getD i []) else F x
def lvF (ns : List (List Int)) : List Nat → (Int → Int) → Int → Int
  | [], F => F
  | i :: os, F => lvF ns os (stF ns F i)
def level33 (ns : List (List Int)) : Int → Int := lvF ns (order33 ns) fun _ => 0
theorem ordN_ok {ns : List (List Int)} : ∀ {k : Nat} {D : List Nat}, (∀ t, t ∈ D → t < ns.length ∧ ∀ m, m ∈ ns.getD t [] → 0 ≤ m ∧ m < ns.length) → ∀ t, t ∈ ordN ns k D → t < ns.length ∧ ∀ m, m ∈ ns.getD t [] → 0 ≤ m ∧ m < ns.length
  | 0, D, h, t, ht => h t ht
  | k + 1, D, h, t, ht => by
    rw [ordN] at ht
    cases hx : nextT ns D with
    | none => rw [hx] at ht; exact h t ht
    | some s =>
      rw [hx] at ht
      refine ordN_ok (fun u hu => ?_) t ht
      rcases List.mem_append.1 hu with hu | hu
      · exact h u hu
      · simp at hu
        subst hu
        obtain ⟨h1, h2, h3⟩ := nextT_some hx
        refine ⟨h1, ?_⟩
        unfold readyN at h3
        simp only [Bool.and_eq_true] at h3
        intro m hm
        have := List.all_eq_true.1 h3.2 m hm
        simp at this
        omega
theorem order33_ok {ns : List (List Int)} : ∀ t, t ∈ order33 ns → t < ns.length ∧ ∀ m, m ∈ ns.getD t [] → 0 ≤ m ∧ m < ns.length := ordN_ok fun t ht => by cases ht
theorem ordN_len {ns : List (List Int)} : ∀ {k : Nat} {D : List Nat}, (ordN ns k D).length ≤ k + D.length
  | 0, D => by simp [ordN]
  | k + 1, D => by
    rw [ordN]
    cases nextT ns D with
    | none => dsimp only; omega
    | some t =>
      dsimp only
      have := ordN_len (ns := ns) (k := k) (D := D ++ [t])
      simp at this
      omega
theorem hiF_bound {F : Int → Int} {b : Int} (hb : 0 ≤ b) (h : ∀ x, 0 ≤ F x ∧ F x ≤ b) : ∀ (l : List Int), 0 ≤ hiF F l ∧ hiF F l ≤ b := by
  intro l
  have key : ∀ (l : List Int) (a : Int), 0 ≤ a → a ≤ b → 0 ≤ l.foldl (fun h n => max h (F n)) a ∧ l.foldl (fun h n => max h (F n)) a ≤ b := by
    intro l
    induction l with
    | nil => intro a h1 h2; exact ⟨h1, h2⟩
    | cons x l ih =>
      intro a h1 h2
      have := h x
      exact ih _ (by show 0 ≤ max a (F x); omega) (by show max a (F x) ≤ b; omega)
  exact key l 0 (by omega) hb
theorem stF_bound {ns : List (List Int)} {F : Int → Int} {i : Nat} {b : Int} (hb : 0 ≤ b) (h : ∀ x, 0 ≤ F x ∧ F x ≤ b) : ∀ x, 0 ≤ stF ns F i x ∧ stF ns F i x ≤ b + 1 := by
  intro x
  have h1 := hiF_bound hb h (ns.getD i [])
  have h2 := h x
  unfold stF
  split <;> omega
theorem lvF_out {ns : List (List Int)} {n : Nat} : ∀ {os : List Nat} {F : Int → Int}, (∀ t, t ∈ os → t < n) → ∀ x : Int, ¬ (0 ≤ x ∧ x < n) → lvF ns os F x = F x
  | [], F, _, x, _ => rfl
  | i :: os, F, h, x, hx => by
    rw [lvF, lvF_out (n := n) (fun t ht => h t (List.mem_cons_of_mem _ ht)) x hx]
    have := h i (List.mem_cons_self ..)
    unfold stF
    rw [if_neg (by omega)]
set_option maxRecDepth 4000 in
theorem T_level (p : Plan) (t : Int) (hp : PlanIn p) (hs : p.pipes.length ≤ 1000) : T Try.prog 49 [p.av, .int .i64 t] (.int .i64 (level33 p.ns t)) := by
  have hnl := p.ns_len
  have hok := order33_ok (ns := p.ns)
  have hol : (order33 p.ns).length ≤ p.pipes.length := by have := ordN_len (ns := p.ns) (k := p.ns.length) (D := []); simp at this; unfold order33; omega
  have hlv : level33 p.ns = lvF p.ns (order33 p.ns) fun _ => 0 := rfl
  refine T.intro (TS.body mix Try.func49 (by kernel_rfl) rfl (by kernel_rfl) (by simp) ?_)
  simp
  refine TS.call' (T_order33 p hp hs) (by simp) ?_
  simp
  generalize order33 p.ns = os at *
  refine vc_loop (fun i : Nat => os.length - i) (fun i e H => ∃ (F : Int → Int) (m : List (Int × Int)), e 1 = .int .i64 t ∧ e 2 = .ptr 0 0 ∧ e 5 = .map 1 ∧ e 13 = slA natA os ∧ e 14 = .int .i64 os.length ∧ e 15 = .int .i64 i ∧ i ≤ os.length ∧ (∀ x, 0 ≤ F x ∧ F x ≤ i) ∧ (∀ x, (getL x m).getD 0 = F x) ∧ level33 p.ns = lvF p.ns (os.drop i) F ∧ H = [.box p.cs, .mp (mpA (AV.int .i64) (AV.int .i64) m) (some 0)]) 0 ?_ ?_
  · exact ⟨fun _ => 0, [], by simp, by simp, by simp, by simp, by simp, by simp, by omega, by simp, by simp [getL_nil], by simpa using hlv, by simp [mpA]⟩
  rintro i e H ⟨F, m, e1, e2, e5, e13, e14, e15, hi, hF, hm, hl, rfl⟩
  by_cases hlt : i < os.length
  · have ew := wrap_next hlt (by omega)
    have hd : os.drop i = os[i] :: os.drop (i + 1) := List.drop_eq_getElem_cons hlt
    obtain ⟨ht, hneed⟩ := hok _ (List.getElem_mem hlt)
    rw [hd, lvF] at hl
    generalize hO : os[i] = o at *
    have htp : o < p.pipes.length := by omega
    have hnd := hp.2 _ (List.getElem_mem htp)
    have hst := stF_bound (ns := p.ns) (i := o) (b := (i : Int)) (by omega) hF
    have hsx : ∀ x, stF p.ns F o x = if x = o then 1 + hiF F (p.pipes[o].needs) else F x := fun x => by unfold stF; rw [p.ns_get htp]
    generalize hN : p.pipes[o].needs = N at *
    simp [e1, e2, e5, e13, e14, e15, hlt, hO, htp, hN]
    refine vc_loop (fun j : Nat => N.length - j) (fun j e H => e 1 = .int .i64 t ∧ e 2 = .ptr 0 0 ∧ e 5 = .map 1 ∧ e 7 = .int .i64 o ∧ e 8 = .int .i64 (hiF F (N.take j)) ∧ e 13 = slA natA os ∧ e 14 = .int .i64 os.length ∧ e 15 = .int .i64 i ∧ e 24 = slA (AV.int .i64) N ∧ e 25 = .int .i64 N.length ∧ e 26 = .int .i64 j ∧ j ≤ N.length ∧ H = [.box p.cs, .mp (mpA (AV.int .i64) (AV.int .i64) m) (some 0)]) 0 ?_ ?_
    · simp [e1, e2, e5, e13, e14, e15, hiF]
    clear e1 e2 e5 e13 e14 e15 e
    rintro j e H ⟨e1, e2, e5, e7, e8, e13, e14, e15, e24, e25, e26, hj, rfl⟩
    by_cases hjn : j < N.length
    · have ewj := wrap_next hjn (by omega)
      have hnx := hiF_next (F := F) hjn
      have hb := hiF_bound (F := F) (b := (i : Int)) (by omega) hF
      have hmn := hm N[j]
      simp [e1, e2, e5, e7, e8, e13, e14, e15, e24, e25, e26, hjn, keys_int, found_mpA, -foundV]
      have hlv : lookV (.int .i64 0) false ((getL N[j] m).map (AV.int .i64)) = .int .i64 (F N[j]) := by
        rw [← hmn]
        cases getL N[j] m <;> simp
      rw [hlv]
      simp [e1, e2, e5, e7, e8, e13, e14, e15, e24, e25, e26, hjn]
      refine ⟨j + 1, by omega, ?_, ewj, by omega⟩
      rw [hnx]
      split <;> omega
    · have : j = N.length := by omega
      subst this
      rw [List.take_length] at e8
      have hb := hiF_bound (F := F) (b := (i : Int)) (by omega) hF N
      have w1 : IntKind.i64.wrap (1 + hiF F N) = 1 + hiF F N := wrap_i64 (by omega) (by omega)
      have hput : putK (.int .i64 (o : Int)) (.int .i64 (1 + hiF F N)) (mpA (AV.int .i64) (AV.int .i64) m) = mpA (AV.int .i64) (AV.int .i64) (putL (o : Int) (1 + hiF F N) m) := putK_mpA
      simp [e1, e2, e5, e7, e8, e13, e14, e15, e24, e25, e26, keys_int, w1, hput]
      refine ⟨i + 1, by omega, ew, by omega, stF p.ns F o, by simpa using hst, putL (o : Int) (1 + hiF F N) m, ?_, hl, rfl⟩
      intro x
      rw [getL_put, hsx]
      split
      · rfl
      · exact hm x
  · have : i = os.length := by omega
    subst this
    rw [List.drop_length] at hl
    have hmt := hm t
    simp [e1, e2, e5, e13, e14, e15, keys_int, found_mpA, -foundV]
    have hlv : lookV (.int .i64 0) false ((getL t m).map (AV.int .i64)) = .int .i64 (level33 p.ns t) := by
      rw [hl, lvF, ← hmt]
      cases getL t m <;> simp
    rw [hlv]
    simp
set_option maxRecDepth 4000 in
theorem T_rlevel33 (p : Plan) (t : Int) (hp : PlanIn p) (hs : p.pipes.length ≤ 1000) : T Try.prog 50 [p.av, .int .i64 t] (.int .i64 (level33 p.ns t)) := by
  have hnl := p.ns_len
  have hok := order33_ok (ns := p.ns)
  have hol : (order33 p.ns).length ≤ p.pipes.length := by have := ordN_len (ns := p.ns) (k := p.ns.length) (D := []); simp at this; unfold order33; omega
  have hlv : level33 p.ns = lvF p.ns (order33 p.ns) fun _ => 0 := rfl
  have hrep : ∀ n, repeatA [AV.int .i64 0] n = ints' (List.replicate n 0) := by
    intro n
    induction n with
    | zero => rfl
    | succ n ih => rw [repeatA, ih]; rfl
  have hout : ∀ x : Int, ¬ (0 ≤ x ∧ x < p.pipes.length) → level33 p.ns x = 0 := fun x hx => by
    rw [hlv, lvF_out (n := p.pipes.length) (fun t ht => by have := (hok t ht).1; omega) x hx]
  obtain ⟨n, hn⟩ : ∃ n, n = p.pipes.length := ⟨_, rfl⟩
  refine T.intro (TS.body mix Try.func50 (by kernel_rfl) rfl (by kernel_rfl) (by simp) ?_)
  simp
  refine TS.call' (T_rorder33 p hp hs) (by simp) ?_
  simp
  refine ⟨by omega, ?_⟩
  rw [hrep, ← hn]
  generalize order33 p.ns = os at *
  refine vc_loop (fun i : Nat => os.length - i) (fun i e H => ∃ (F : Int → Int) (lv : List Int), e 1 = .int .i64 t ∧ e 2 = .ptr 0 0 ∧ e 5 = slA natA os ∧ e 6 = .mv 1 n 1 0 n ∧ e 7 = .int .i64 i ∧ i ≤ os.length ∧ (∀ x, 0 ≤ F x ∧ F x ≤ i) ∧ lv.length = n ∧ (∀ k (h : k < lv.length), lv[k] = F k) ∧ level33 p.ns = lvF p.ns (os.drop i) F ∧ H = [.box p.cs, .row n 1 (ints' lv)]) 0 ?_ ?_
  · exact ⟨fun _ => 0, List.replicate n 0, by simp, by simp, by simp, by simp, by simp, by omega, by simp, by simp, by simp, by simpa using hlv, by simp⟩
  rintro i e H ⟨F, lv, e1, e2, e5, e6, e7, hi, hF, hll, hlk, hl, rfl⟩
  by_cases hlt : i < os.length
  · have ew := wrap_next hlt (by omega)
    have hd : os.drop i = os[i] :: os.drop (i + 1) := List.drop_eq_getElem_cons hlt
    obtain ⟨ht, hneed⟩ := hok _ (List.getElem_mem hlt)
    rw [hd, lvF] at hl
    generalize hO : os[i] = o at *
    have htp : o < p.pipes.length := by omega
    have hnd := hp.2 _ (List.getElem_mem htp)
    rw [p.ns_get htp] at hneed
    have hst := stF_bound (ns := p.ns) (i := o) (b := (i : Int)) (by omega) hF
    have hsx : ∀ x, stF p.ns F o x = if x = o then 1 + hiF F (p.pipes[o].needs) else F x := fun x => by unfold stF; rw [p.ns_get htp]
    generalize hN : p.pipes[o].needs = N at *
    simp [e1, e2, e5, e6, e7, hlt, hO, htp, hN]
    refine vc_loop (fun j : Nat => N.length - j) (fun j e H => e 1 = .int .i64 t ∧ e 2 = .ptr 0 0 ∧ e 5 = slA natA os ∧ e 6 = .mv 1 n 1 0 n ∧ e 7 = .int .i64 i ∧ e 8 = slA (AV.int .i64) N ∧ e 9 = .int .i64 (hiF F (N.take j)) ∧ e 10 = .int .i64 j ∧ j ≤ N.length ∧ H = [.box p.cs, .row n 1 (ints' lv)]) 0 ?_ ?_
    · simp [e1, e2, e5, e6, e7, hiF]
    clear e1 e2 e5 e6 e7 e
    rintro j e H ⟨e1, e2, e5, e6, e7, e8, e9, e10, hj, rfl⟩
    by_cases hjn : j < N.length
    · have ewj := wrap_next hjn (by omega)
      have hnx := hiF_next (F := F) hjn
      have hr := hneed _ (List.getElem_mem hjn)
      obtain ⟨x, hx⟩ : ∃ x : Nat, N[j] = x := ⟨N[j].toNat, by omega⟩
      have hxl : x < lv.length := by omega
      have hxn : x < n := by omega
      have hlx := hlk x hxl
      rw [hx] at hnx
      simp [e1, e2, e5, e6, e7, e8, e9, e10, hjn, hx, hxl, hxn, hlx]
      refine condK_of (fun q => ?_) (fun q => ?_)
      · simp at q
        simp [e1, e2, e5, e6, e7, e8, e9, e10, hjn, hx, hxl, hxn, hlx]
        exact ⟨j + 1, by omega, by rw [hnx]; omega, ewj, by omega⟩
      · simp at q
        simp [e1, e2, e5, e6, e7, e8, e9, e10, hjn]
        exact ⟨j + 1, by omega, by rw [hnx]; omega, ewj, by omega⟩
    · have : j = N.length := by omega
      subst this
      rw [List.take_length] at e9
      have hb := hiF_bound (F := F) (b := (i : Int)) (by omega) hF N
      have w1 : IntKind.i64.wrap (hiF F N + 1) = 1 + hiF F N := by rw [wrap_i64 (by omega) (by omega)]; omega
      have hol' : o < lv.length := by omega
      have hon : o < n := by omega
      simp [e1, e2, e5, e6, e7, e8, e9, e10, hlt, hO, w1, hol', hon]
      refine ⟨by omega, i + 1, by omega, ew, by omega, stF p.ns F o, by simpa using hst, lv.set o (1 + hiF F N), by simpa using hll, ?_, hl, ?_⟩
      · intro k h
        rw [List.getElem_set, hsx]
        by_cases e : o = k
        · subst e; simp
        · rw [if_neg e, if_neg (by omega)]
          exact hlk k _
      · rw [List.set_eq_take_append_cons_drop, if_pos hol']
  · have : i = os.length := by omega
    subst this
    rw [List.drop_length, lvF] at hl
    by_cases ht : 0 ≤ t ∧ t < n
    · obtain ⟨k, rfl⟩ : ∃ k : Nat, t = k := ⟨t.toNat, by omega⟩
      have hkl : k < lv.length := by omega
      have hkn : k < n := by omega
      have h3 : ¬ (n ≤ k) := by omega
      have h4 : ¬ ((k : Int) < 0) := by omega
      have := hlk k hkl
      simp [e1, e2, e5, e6, e7, hkl, hkn, h3, h4, this, hl]
    · have h0 := hout t (by omega)
      rw [h0]
      by_cases h1 : t < 0
      · simp [e1, e2, e5, e6, e7, h1]
      · have h2 : (n : Int) ≤ t := by omega
        simp [e1, e2, e5, e6, e7, h1, h2]
end Go.Proofs.Ytgmhmdmfnmlhmab.PL
