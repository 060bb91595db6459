/- Contracts of functions of the program, and plain laws (part 7): Programs of semijoins, played; Trees by their parents, in plain words: the same nodes are beside one another whatever the root  what is connected is on each way; Relations, in plain words: a join tree's program leaves what takes part; Relations in the order of a tree  all together along it; A tree's order, and what hangs along it. -/
import Derived.Test.YtjplcdeaedflpaaGreatDoorB1
import Derived.Test.YtjplcdeaedflpaaGreatDoorB3
import Derived.Test.YtjplcdeaedflpaaGreatDoorB5
import Derived.Test.YtjplcdeaedflpaaGreatDoorB6
namespace Go.Proofs.YtjplcdeaedflpaaGreatDoor.PL
open Go.Proofs Go.RowKit
set_option linter.unusedVariables false
set_option linter.unusedSimpArgs false
instance : Plain Rel.av := ⟨fun x => by simp [AV.pl, AV.pls]⟩
instance : Selfs Rel.av := ⟨fun a x h => by simp at h; rcases h with rfl | rfl <;> simp⟩
def OJ (r : Rel) (i : Nat) (H : List HO) : Prop := ∃ c1 x L, c1.length = 2 ∧ H = .box r.cs :: .box c1 :: .box [.sl .no (ints' r.cols), x] :: L ∧ GrowX 3 1 L x (rows' (r.rows.take i))
theorem T_rdOwn (r : Rel) (hr : OkR r) : T Tryz.prog 69 [r.av] r.av := by
  have hnc := hr.nc
  have hnr := hr.nr
  have k1 := T_cloneI4 r.cols (by omega)
  refine T.introF (TS.body mix Tryz.func69 (by kernel_rfl) rfl (by kernel_rfl) (by simp) ?_)
  simp
  refine TS.callW k1 (Dws.self (by simp)) ?_
  simp
  refine vc_loop (fun i : Nat => r.rows.length - i) (fun i e H => e 2 = .ptr 1 0 ∧ e 3 = .ptr 2 0 ∧ e 11 = .sl .no (rows' r.rows) ∧ e 12 = .int .i64 r.rows.length ∧ e 13 = .int .i64 i ∧ i ≤ r.rows.length ∧ OJ r i H) 0 ?_ ?_
  · simp
    exact ⟨_, _, _, rfl, rfl, .inl ⟨by simp, .inr rfl⟩⟩
  rintro i e H ⟨e2, e3, e11, e12, e13, hi, c1, x, L, hc1, rfl, hg⟩
  by_cases hlt : i < r.rows.length
  · have ew := wrap_next hlt (by omega)
    have hrow := hr.row _ (List.getElem_mem hlt)
    have k2 := T_cloneV4 r.rows[i] (by omega)
    have hnx : r.rows.take (i + 1) = r.rows.take i ++ [r.rows[i]] := take_next hlt
    have hml : (r.rows.take i).length = i := by simp; omega
    simp [e2, e3, e11, e12, e13, hlt]
    refine TDK.callW k2 (Dws.self (by simp)) ?_
    rcases hg with ⟨ge, zx⟩ | ⟨t, rfl, ht⟩
    · rw [avs_eq_nil] at ge
      have ex := GrowX.ex0 zx
      simp [e2, e3, e11, e12, e13, hlt, ex]
      refine ⟨i + 1, by omega, ew, by omega, c1, _, _, hc1, rfl, ?_⟩
      rw [hnx]
      exact GrowX.first (f := fun r => AV.sl .no (vals' r)) ge rfl
    · have hw := ht
      simp only [avs_length] at hw
      simp [e2, e3, e11, e12, e13, hlt, hw]
      refine ⟨by omega, i + 1, by omega, ew, by omega, c1, _, _, hc1, rfl, ?_⟩
      rw [hnx]
      exact GrowX.more (f := fun r => AV.sl .no (vals' r)) ht (by omega)
  · have : i = r.rows.length := by omega
    subst this
    rw [List.take_length] at hg
    obtain ⟨own, rfl⟩ := hg.own
    match c1, hc1 with
    | [u0, u1], _ =>
    simp [e2, e3, e11, e12, e13]
    exact .agg (.cons (Frz.slN (f := AV.int .i64)) (.cons (Frz.slN (f := fun r => AV.sl .no (vals' r))) .nil))
/-- a row of relations, in memory -/
def RelRow (H : List HO) (c : AV) (l : List Rel) : Prop := (l = [] ∧ (c = .sl .nil [] ∨ c = .sl .exact [])) ∨ 0 < l.length ∧ ∃ t, c = .mv t l.length 2 0 l.length ∧ H[t]? = some (.row l.length 2 ((rels' l).flatMap AV.cells))
theorem S_thereP (H : List HO) (k : Nat) (c : AV) (l : List Rel) (i : Int) (hk : H[k]? = some (.box [c])) (hc : RelRow H c l) : TS Tryz.prog 70 [.int .i64 i, .ptr k 0] H (pt (.bool (decide (0 ≤ i ∧ i < l.length))) H) := by
  refine TS.body mix Tryz.func70 (by kernel_rfl) rfl (by kernel_rfl) (by simp) ?_
  rcases hc with ⟨rfl, rfl | rfl⟩ | ⟨h0, t, rfl, ht⟩
  · simp [hk]
  · simp [hk]
  · simp [hk]
/-- what is asked of some in the proofs of programs -/
structure OkP (l : List Rel) : Prop where
  ok : ∀ r, r ∈ l → OkR r
  nc : ∀ r, r ∈ l → r.cols.length ≤ 20
  len : l.length ≤ 40
theorem OkL.okP {l : List Rel} (h : OkL l) : OkP l := ⟨h.ok, h.nc, h.len⟩
theorem OkP.getD {l : List Rel} (h : OkP l) (k : Nat) : OkR (l.getD k zR) ∧ (l.getD k zR).cols.length ≤ 20 := by
  rcases Nat.lt_or_ge k l.length with hk | hk
  · rw [getD_ltR hk]; exact ⟨h.ok _ (List.getElem_mem hk), h.nc _ (List.getElem_mem hk)⟩
  · rw [List.getD_eq_getElem?_getD, List.getElem?_eq_none hk]; exact ⟨.zero, by simp [zR]⟩
theorem OkP.step {l : List Rel} (h : OkP l) (p : Int × Int) : OkP (stepJ l p) := by
  unfold stepJ
  split
  · have h1 := h.getD p.1.toNat
    refine ⟨fun r hr => ?_, fun r hr => ?_, by simpa using h.len⟩
    · rcases List.mem_or_eq_of_mem_set hr with hr | rfl
      · exact h.ok r hr
      · exact someR_ok (heldR_ok h1.1)
    · rcases List.mem_or_eq_of_mem_set hr with hr | rfl
      · exact h.nc r hr
      · exact Nat.le_trans (held_cols _) h1.2
  · exact h
theorem OkP.play {prog : List (Int × Int)} : ∀ {l : List Rel}, OkP l → OkP (playJ l prog) := by
  induction prog with
  | nil => intro l h; exact h
  | cons p prog ih => intro l h; exact ih (h.step p)
theorem play_next (l : List Rel) {prog : List (Int × Int)} {i : Nat} (h : i < prog.length) : playJ l (prog.take (i + 1)) = stepJ (playJ l (prog.take i)) prog[i] := by rw [take_next h, playJ_snoc]
def PJ1 (l : List Rel) (i : Nat) (H : List HO) : Prop := ∃ c L, H = .box [c] :: L ∧ RelRow H c (l.take i)
def PJ2 (R : List Rel) (H : List HO) : Prop := ∃ c L, H = .box [c] :: L ∧ RelRow H c R
theorem T_rdPlay (l : List Rel) (prog : List (Int × Int)) (h : OkP l) (hp : prog.length ≤ 1000000) : T Tryz.prog 31 [.sl .no (rels' l), .sl .no (halves' prog)] (.sl .no (rels' (playJ l prog))) := by
  have hlen := h.len
  refine T.introF (TS.bodyM [21] mix Tryz.func31 (by kernel_rfl) rfl (by kernel_rfl) (by simp) ?_)
  simp
  refine vc_loop (fun i : Nat => l.length - i) (fun i e H => e 1 = .sl .no (halves' prog) ∧ e 5 = .ptr 0 0 ∧ e 11 = .sl .no (rels' l) ∧ e 12 = .int .i64 l.length ∧ e 13 = .int .i64 i ∧ i ≤ l.length ∧ PJ1 l i H) 0 ?_ ?_
  · simp
    exact ⟨_, _, rfl, .inl ⟨by simp, .inr rfl⟩⟩
  · rintro i e H ⟨e1, e5, e11, e12, e13, hi, c, L, rfl, hg⟩
    by_cases hlt : i < l.length
    · have ew := wrap_next hlt (by omega)
      have k1 := T_rdOwn l[i] (h.ok _ (List.getElem_mem hlt))
      have hnx : l.take (i + 1) = l.take i ++ [l[i]] := take_next hlt
      have hml : (l.take i).length = i := by simp; omega
      simp [e1, e5, e11, e12, e13, hlt]
      refine TDK.callW k1 (Dws.self (by simp)) ?_
      rcases hg with ⟨ge, zx⟩ | ⟨_, t, rfl, ht⟩
      · have ex := GrowX.ex0 zx
        simp [e1, e5, e11, e12, e13, hlt, ex]
        refine ⟨i + 1, by omega, ew, by omega, _, _, rfl, .inr ⟨by rw [List.length_take]; omega, L.length + 1 + 1, ?_, ?_⟩⟩
        · rw [hnx, ge]; rfl
        · rw [hnx, ge]; simp
      · cases t with
        | zero => simp at ht
        | succ s =>
        simp only [List.getElem?_cons_succ] at ht
        have hsl := (List.getElem?_eq_some_iff.1 ht).1
        rw [hml] at ht
        have ht2 : ∀ Y : List HO, (L ++ Y)[s]? = some (.row i 2 ((rels' (l.take i)).flatMap AV.cells)) := fun Y => by rw [List.getElem?_append_left hsl]; exact ht
        have hl1 : (l.take (i + 1)).length = i + 1 := by rw [hnx, List.length_append, hml]; rfl
        simp [e1, e5, e11, e12, e13, hlt, hml, ht2]
        refine ⟨by omega, i + 1, by omega, ew, by omega, _, _, rfl, .inr ⟨by omega, s + 1, ?_, ?_⟩⟩
        · rw [hl1]
        · rw [hl1, hnx, List.getElem?_cons_succ, List.getElem?_set_self (by simp; omega)]
          rw [show rels' (l.take i ++ [l[i]]) = rels' (l.take i) ++ [l[i].av] from List.map_append .., List.flatMap_append]
          rfl
    · have : i = l.length := by omega
      subst this
      rw [List.take_length] at hg
      simp [e1, e5, e11, e12, e13, hlt]
      refine vc_loop (fun i : Nat => prog.length - i) (fun i e H => e 5 = .ptr 0 0 ∧ e 8 = .fn (.func 70) [] [.ptr 0 0] ∧ e 24 = .sl .no (halves' prog) ∧ e 25 = .int .i64 prog.length ∧ e 26 = .int .i64 i ∧ i ≤ prog.length ∧ PJ2 (playJ l (prog.take i)) H) 0 ?_ ?_
      · simp [e5]
        exact ⟨c, L, rfl, hg⟩
      clear hg c L e1 e5 e11 e12 e13 hi hlt
      rintro i e H ⟨e5, e8, e24, e25, e26, hi, c, L, rfl, hg⟩
      have hok := h.play (prog := prog.take i)
      have hRl : (playJ l (prog.take i)).length = l.length := playJ_len _ _
      by_cases hlt : i < prog.length
      · have ew := wrap_next hlt (by omega)
        have hnx := play_next l hlt
        obtain ⟨p, hpp⟩ : ∃ p, p = prog[i] := ⟨_, rfl⟩
        rw [← hpp] at hnx
        obtain ⟨R, hR⟩ : ∃ R, R = playJ l (prog.take i) := ⟨_, rfl⟩
        rw [← hR] at hnx hg hok hRl
        have hx : RelRow (.box [c] :: (L ++ [.box [.int .i64 p.1, .int .i64 p.2]])) c R := by
          rcases hg with h | ⟨h0, t, h1, h2⟩
          · exact .inl h
          · refine .inr ⟨h0, t, h1, ?_⟩
            have := (List.getElem?_eq_some_iff.1 h2).1
            rw [← List.cons_append, List.getElem?_append_left this]
            exact h2
        have st := fun j => S_thereP (.box [c] :: (L ++ [.box [.int .i64 p.1, .int .i64 p.2]])) 0 c R j rfl hx
        obtain ⟨p1, p2⟩ := p
        dsimp only at st hx
        simp [e5, e8, e24, e25, e26, hlt, ← hpp]
        by_cases hc : p1 ≠ p2 ∧ 0 ≤ p1 ∧ p1 < R.length ∧ 0 ≤ p2 ∧ p2 < R.length
        · obtain ⟨a1, a2, a3, a4, a5⟩ := hc
          have hst : stepJ R (p1, p2) = R.set p1.toNat (semiR (heldR (R.getD p1.toNat zR)) (heldR (R.getD p2.toNat zR))) := if_pos ⟨a1, a2, a3, a4, a5⟩
          rw [hst] at hnx
          obtain ⟨T, rfl⟩ := Int.eq_ofNat_of_zero_le a2
          obtain ⟨B, rfl⟩ := Int.eq_ofNat_of_zero_le a4
          rw [Int.toNat_natCast, Int.toNat_natCast] at hnx
          have hTl : T < R.length := by omega
          have hBl : B < R.length := by omega
          rw [getD_ltR hTl, getD_ltR hBl] at hnx
          have s1 := st T
          have s2 := st B
          rw [decide_eq_true ⟨a2, a3⟩] at s1
          rw [decide_eq_true ⟨a4, a5⟩] at s2
          have a1' : ¬ T = B := fun h => a1 (by rw [h])
          have hk := T_semijoin R[T] R[B] (hok.ok _ (List.getElem_mem hTl)) (hok.ok _ (List.getElem_mem hBl)) (by have := hok.nc _ (List.getElem_mem hTl); omega)
          obtain ⟨z, hz⟩ : ∃ z, z = semiR (heldR R[T]) (heldR R[B]) := ⟨_, rfl⟩
          have hz' : someR (heldR R[T]) (heldR R[B]) true = z := hz.symm
          rw [hz'] at hk
          rw [← hz] at hnx
          rw [show (!decide ((T : Int) = (B : Int))) = true by rw [Bool.not_eq_true', decide_eq_false_iff_not]; exact a1]
          refine GTK.yes (s1.mono ?_)
          rintro r' H' ⟨rfl, rfl⟩
          simp [a1', e5, e8, e24, e25, e26]
          refine GTK.yes (s2.mono ?_)
          rintro r' H' ⟨rfl, rfl⟩
          rcases hx with ⟨h0, _⟩ | ⟨h0, t, rfl, ht⟩
          · rw [h0] at hTl; cases hTl
          have f1 : (((rels' R).flatMap AV.cells).drop (T * 2)).take 2 = R[T].cs := flatA_at (f := Rel.av) (sz := 2) R hTl
          have f2 : (((rels' R).flatMap AV.cells).drop (B * 2)).take 2 = R[B].cs := flatA_at (f := Rel.av) (sz := 2) R hBl
          have hml := flatA_len (f := Rel.av) (sz := 2) R
          rw [List.length_flatMap] at hml
          have q1 : ((rels' R).flatMap AV.cells).take (T * 2) ++ (z.av.cells ++ ((rels' R).flatMap AV.cells).drop (T * 2 + 2)) = (rels' (R.set T z)).flatMap AV.cells := flatA_put (f := Rel.av) (sz := 2) R hTl (k := 0) (new := z.av.cells) (a := z) (by simp) (by simp)
          cases t with
          | zero => simp at ht
          | succ s =>
          simp only [List.getElem?_cons_succ] at ht
          simp [a1', e5, e8, e24, e25, e26, ht, hTl, hBl]
          refine ⟨by rw [hml]; omega, by rw [hml]; omega, ?_⟩
          rw [f1, f2]
          refine TDK.callW hk (Dws.self (by simp)) ?_
          simp [a1', e5, e8, e24, e25, e26, ht, hTl, hBl]
          have hll : (R.set T z).length = R.length := List.length_set
          refine ⟨by rw [hml]; omega, i + 1, by omega, ew, by omega, _, _, rfl, .inr ⟨by rw [hnx, hll]; exact h0, s + 1, by rw [hnx, hll], ?_⟩⟩
          rw [hnx, hll, List.getElem?_cons_succ, List.getElem?_set_self (List.getElem?_eq_some_iff.1 ht).1, ← q1]
          rfl
        · have hst : stepJ R (p1, p2) = R := if_neg hc
          rw [hst, hR] at hnx
          refine GTK.inv (r := .bool (decide (0 ≤ p1 ∧ p1 < R.length))) (fun H' => H' = HO.box [c] :: (L ++ [HO.box [.int .i64 p1, .int .i64 p2]])) (fun _ => st p1) rfl ?_
          rintro H' rfl
          simp [e5, e8, e24, e25, e26]
          refine ⟨fun b1 b2 b3 => ⟨b1, b2, b3⟩, ?_⟩
          refine GTK.inv (r := .bool (decide (0 ≤ p2 ∧ p2 < R.length))) (fun H' => H' = HO.box [c] :: (L ++ [HO.box [.int .i64 p1, .int .i64 p2]])) (fun _ => st p2) rfl ?_
          rintro H' rfl
          simp [e5, e8, e24, e25, e26]
          refine condK_of (fun hc2 => ?_) (fun hc2 => ?_)
          · simp at hc2
            exact absurd ⟨hc2.1.1, hc2.1.2.1, hc2.1.2.2, hc2.2.1, hc2.2.2⟩ hc
          · simp [e5, e8, e24, e25, e26]
            exact ⟨i + 1, by omega, ew, by omega, c, _, rfl, by rw [hnx, ← hR]; exact hx⟩
      · have : i = prog.length := by omega
        subst this
        rw [List.take_length] at hg
        rcases hg with ⟨h0, rfl | rfl⟩ | ⟨h0, t, rfl, ht⟩
        · simp [e5, e8, e24, e25, e26, hlt]
          rw [h0]
          exact Frz.slN (f := Rel.av) (l := [])
        · simp [e5, e8, e24, e25, e26, hlt]
          rw [h0]
          exact Frz.slN (f := Rel.av) (l := [])
        · simp [e5, e8, e24, e25, e26, hlt]
          exact Frz.mvA (f := Rel.av) (sz := 2) ht (by simp)
end Go.Proofs.YtjplcdeaedflpaaGreatDoor.PL
namespace Go.Proofs.YtjplcdeaedflpaaGreatDoor.PL
open Go.Proofs
set_option linter.unusedVariables false
set_option linter.unusedSimpArgs false
/-- a walk within some nodes -/
inductive Wk (N : Nat → Nat → Prop) (X : Nat → Prop) : Nat → Nat → Prop
  | refl {a : Nat} (h : X a) : Wk N X a a
  | step {a b c : Nat} (h : X a) (e : N a b) (t : Wk N X b c) : Wk N X a c
theorem Wk.head {N : Nat → Nat → Prop} {X : Nat → Prop} {a b : Nat} (h : Wk N X a b) : X a := by cases h <;> assumption
theorem Wk.trans {N : Nat → Nat → Prop} {X : Nat → Prop} {a b c : Nat} (h : Wk N X a b) (k : Wk N X b c) : Wk N X a c := by
  induction h with
  | refl h => exact k
  | step h e t ih => exact .step h e (ih k)
theorem Wk.symm {N : Nat → Nat → Prop} (hs : ∀ a b, N a b → N b a) {X : Nat → Prop} {a b : Nat} (h : Wk N X a b) : Wk N X b a := by
  induction h with
  | refl h => exact .refl h
  | step h e t ih => exact ih.trans (.step t.head (hs _ _ e) (.refl h))
theorem Wk.congr {N M : Nat → Nat → Prop} (hs : ∀ a b, N a b → M a b) {X : Nat → Prop} {a b : Nat} (h : Wk N X a b) : Wk M X a b := by
  induction h with
  | refl h => exact .refl h
  | step h e t ih => exact .step h (hs _ _ e) ih
/-- beside one another -/
def nbr (f : Nat → Option Nat) (a b : Nat) : Prop := f a = some b ∨ f b = some a
theorem nbr_symm {f : Nat → Option Nat} (a b : Nat) (h : nbr f a b) : nbr f b a := h.symm
/-- who leaves what hangs below a node passes it, and its parent -/
theorem Wk.exit {f : Nat → Option Nat} {X : Nat → Prop} {c : Nat} {a b : Nat} (h : Wk (nbr f) X a b) : ∀ {A B : List Nat}, Gy.Up f a A → Gy.Up f b B → c ∈ A → c ∉ B → X c ∧ ∃ p, f c = some p ∧ X p := by
  induction h with
  | refl h =>
    intro A B hA hB h1 h2
    rw [hA.uniq hB] at h1
    exact absurd h1 h2
  | @step a d b h e t ih =>
    intro A B hA hB h1 h2
    rcases e with e | e
    · cases hA with
      | root hf => rw [hf] at e; cases e
      | @step _ p U hf hU =>
        rw [hf] at e
        cases e
        rcases List.mem_cons.1 h1 with rfl | h1
        · by_cases hd : c ∈ U
          · exact ih hU hB hd h2
          · exact ⟨h, d, hf, t.head⟩
        · exact ih hU hB h1 h2
    · exact ih (.step e hA) hB (List.mem_cons_of_mem _ h1) h2
theorem Wk.climb {f : Nat → Option Nat} {X : Nat → Prop} : ∀ {P : List Nat} {a m : Nat} {R : List Nat}, Gy.Up f a (P ++ m :: R) → (∀ x, x ∈ P → X x) → X m → Wk (nbr f) X a m
  | [], a, m, R, h, hP, hm => by
    obtain ⟨U, e⟩ := h.head
    simp at e
    rw [← e.1]
    exact .refl hm
  | c :: P, a, m, R, h, hP, hm => by
    obtain ⟨U, e⟩ := h.head
    have e1 : c = a := by simp at e; exact e.1
    subst e1
    generalize hl : c :: P ++ m :: R = L at h
    cases h with
    | root hf => simp at hl
    | @step _ p U hf hU =>
      simp at hl
      subst hl
      exact .step (hP _ (by simp)) (.inl hf) (Wk.climb hU (fun x hx => hP x (by simp [hx])) hm)
/-- two ways up, to where they meet -/
structure TwoW (f : Nat → Option Nat) (a b : Nat) (P1 P2 : List Nat) (m : Nat) (R : List Nat) : Prop where
  u1 : Gy.Up f a (P1 ++ m :: R)
  u2 : Gy.Up f b (P2 ++ m :: R)
  d : ∀ x, x ∈ P1 → x ∉ P2 ++ m :: R
/-- all on the way have what both ends have, just if what has it hangs together -/
theorem TwoW.conn {f : Nat → Option Nat} {X : Nat → Prop} {a b m : Nat} {P1 P2 R : List Nat} (h : TwoW f a b P1 P2 m R) : (∀ k, k ∈ P1 ++ (m :: P2.reverse) → X k) ↔ Wk (nbr f) X a b := by
  constructor
  · intro hX
    exact (Wk.climb h.u1 (fun x hx => hX x (by simp [hx])) (hX m (by simp))).trans ((Wk.climb h.u2 (fun x hx => hX x (by simp [hx])) (hX m (by simp))).symm nbr_symm)
  · intro hw k hk
    have n1 := h.u1.nodup
    have n2 := h.u2.nodup
    rw [List.mem_append, List.mem_cons, List.mem_reverse] at hk
    rcases hk with hk | rfl | hk
    · exact (hw.exit h.u1 h.u2 (List.mem_append_left _ hk) (h.d k hk)).1
    · rcases List.eq_nil_or_concat P1 with e | ⟨P, c, e⟩
      · subst e
        obtain ⟨U, e⟩ := h.u1.head
        simp at e
        rw [e.1]
        exact hw.head
      · subst e
        have hc : c ∈ P.concat c := by simp
        obtain ⟨p, hp, hpx⟩ := (hw.exit h.u1 h.u2 (List.mem_append_left _ hc) (h.d c hc)).2
        have : ∀ {Q : List Nat} {x : Nat}, Gy.Up f x (Q ++ c :: k :: R) → f c = some k := by
          intro Q
          induction Q with
          | nil =>
            intro x hx
            cases hx with
            | step hf hU =>
              obtain ⟨U, e⟩ := hU.head
              simp at e
              rw [e.1]; exact hf
          | cons q Q ih =>
            intro x hx
            generalize hl : q :: Q ++ c :: k :: R = L at hx
            cases hx with
            | root hf => simp at hl
            | step hf hU => simp at hl; obtain ⟨_, rfl⟩ := hl; exact ih hU
        have h3 : f c = some k := this (Q := P) (x := a) (by have := h.u1; simpa using this)
        rw [h3] at hp
        cases hp
        exact hpx
    · have h1 : k ∉ P1 ++ m :: R := by
        intro hm
        rw [List.mem_append] at hm
        rcases hm with hm | hm
        · exact h.d k hm (List.mem_append_left _ hk)
        · rw [List.nodup_append] at n2
          exact n2.2.2 _ hk _ hm rfl
      exact ((hw.symm nbr_symm).exit h.u2 h.u1 (List.mem_append_left _ hk) h1).1
theorem path_two {q : List Int} (htr : treeI q = true) {i j : Nat} (hi : i < q.length) (hj : j < q.length) : ∃ P1 P2 m R, TwoW (fOf q) i j P1 P2 m R ∧ pathQ (upI q i) (upI q j) = nI (P1 ++ m :: P2.reverse) ∧ ∀ x, x ∈ P1 ++ m :: P2.reverse → x < q.length := by
  have ht := tree_ok htr
  obtain ⟨r, hr, hroot⟩ := tree_root htr (by omega)
  obtain ⟨U, u1, u2, u3⟩ := ht i hi
  obtain ⟨W, w1, w2, w3⟩ := ht j hj
  have hrU := hroot i hi
  have hrW := hroot j hj
  obtain ⟨A, c, R, h1, h2, h3, h4, h5⟩ := find_split (p := fun v => decide (v ∈ upI (q) j)) (l := upI (q) i) ⟨r, hrU, by simpa using hrW⟩
  have hcW : c ∈ upI (q) j := by simpa using h2
  have hcU : c ∈ upI (q) i := by rw [h1]; simp
  rw [w3] at hcW
  obtain ⟨k, hk, rfl⟩ := List.mem_map.1 hcW
  have hkU : k ∈ U := by rw [u3] at hcU; exact mem_nI.1 hcU
  obtain ⟨P1, R1, p1, p2⟩ := u1.split hkU
  obtain ⟨P2, R2, q1, q2⟩ := w1.split hk
  have e12 := p2.uniq q2
  simp only [List.cons.injEq, true_and] at e12
  subst e12
  have nU := u1.nodup
  have nW := w1.nodup
  have hx : upI (q) i = nI P1 ++ (k : Int) :: nI R1 := by rw [u3, p1]; simp [nI]
  have hy : upI (q) j = nI P2 ++ (k : Int) :: nI R1 := by rw [w3, q1]; simp [nI]
  have ndx : (nI P1 ++ (k : Int) :: nI R1).Nodup := by
    rw [← hx, u3]
    exact List.Pairwise.map _ (fun a b h => by omega) nU
  have ndy : (nI P2 ++ (k : Int) :: nI R1).Nodup := by
    rw [← hy, w3]
    exact List.Pairwise.map _ (fun a b h => by omega) nW
  rw [hx] at h1 h4 h5 ⊢
  rw [hy] at h3 h4 h5 ⊢
  have hA : A = nI P1 := by
    have hnk : (k : Int) ∉ nI P1 := fun h => by
      rw [List.nodup_append] at ndx
      exact ndx.2.2 _ h _ (List.mem_cons_self ..) rfl
    have hnA : (k : Int) ∉ A := fun h => by
      have := h3 _ h
      simp at this
    exact (List.append_inj_left' (s₁ := A) (s₂ := nI P1) (t₁ := (k : Int) :: R) (t₂ := (k : Int) :: nI R1) h1.symm (by
      have : ∀ (l m : List Int) (x : Int) (s t : List Int), l ++ x :: s = m ++ x :: t → x ∉ l → x ∉ m → s.length = t.length := by
        intro l
        induction l with
        | nil =>
          intro m x s t he _ hm
          cases m with
          | nil => simp at he; rw [he]
          | cons y m => simp at he; exact absurd he.1 (fun e => hm (by rw [e]; simp))
        | cons z l ih =>
          intro m x s t he hl hm
          cases m with
          | nil => simp at he; exact absurd he.1 (fun e => hl (by rw [← e]; simp))
          | cons y m =>
            simp at he hl hm
            exact ih m x s t he.2 hl.2 hm.2
      simpa using this A (nI P1) k R (nI R1) h1.symm hnA hnk))
  subst hA
  unfold pathQ
  rw [h4]
  dsimp only
  have g1 : (nI P1 ++ (k : Int) :: nI R1).getD (nI P1).length 0 = (k : Int) := by simp
  have g2 : (nI P2 ++ (k : Int) :: nI R1).findIdx (fun v => decide (v = (k : Int))) = (nI P2).length := by
    rw [List.findIdx_append]
    have : ∀ l : List Int, (k : Int) ∉ l → l.findIdx (fun v => decide (v = (k : Int))) = l.length := by
      intro l hl
      rw [List.findIdx_eq_length]
      intro x hx
      have : x ≠ (k : Int) := fun e => hl (e ▸ hx)
      simpa using this
    have hn2 : (k : Int) ∉ nI P2 := fun h => by
      rw [List.nodup_append] at ndy
      exact ndy.2.2 _ h _ (List.mem_cons_self ..) rfl
    rw [this _ hn2, List.findIdx_cons]
    simp
  rw [g1, g2]
  have t1 : (nI P1 ++ (k : Int) :: nI R1).take ((nI P1).length + 1) = nI P1 ++ [(k : Int)] := by rw [List.take_append, List.take_of_length_le (by omega)]; simp
  have t2 : (nI P2 ++ (k : Int) :: nI R1).take (nI P2).length = nI P2 := by rw [List.take_append, List.take_of_length_le (by omega)]; simp
  rw [t1, t2]
  refine ⟨P1, P2, k, R1, ⟨p1 ▸ u1, q1 ▸ w1, fun x hx hm => ?_⟩, by simp [nI], fun x hx => ?_⟩
  · have := h3 (x : Int) (mem_nI.2 hx)
    simp only [decide_eq_false_iff_not] at this
    apply this
    rw [List.mem_append, List.mem_cons] at hm ⊢
    rcases hm with hm | hm | hm
    · exact .inl (mem_nI.2 hm)
    · exact .inr (.inl (by rw [hm]))
    · exact .inr (.inr (mem_nI.2 hm))
  · rw [List.mem_append, List.mem_cons, List.mem_reverse] at hx
    rcases hx with hx | rfl | hx
    · exact u2 x (by rw [p1]; simp [hx])
    · exact u2 x (by rw [p1]; simp)
    · exact w2 x (by rw [q1]; simp [hx])
/-! ### another root -/
end Go.Proofs.YtjplcdeaedflpaaGreatDoor.PL
namespace Go.Proofs.YtjplcdeaedflpaaGreatDoor.PL
open Go.Proofs
set_option linter.unusedVariables false
set_option linter.unusedSimpArgs false
/-- an order of a tree's nodes, from the root on -/
structure TOrd (n : Nat) (f : Nat → Option Nat) (Z : List Nat) : Prop where
  perm : Z.Perm (List.range n)
  par : ∀ i (h : i < Z.length), 0 < i → ∃ p, f Z[i] = some p ∧ p ∈ Z.take i
  root : ∀ (h : 0 < Z.length), f Z[0] = none
namespace TOrd
variable {n : Nat} {f : Nat → Option Nat} {Z : List Nat}
theorem lt (h : TOrd n f Z) {b : Nat} (hb : b ∈ Z) : b < n := by simpa using h.perm.mem_iff.1 hb
theorem mem (h : TOrd n f Z) {b : Nat} (hb : b < n) : b ∈ Z := h.perm.mem_iff.2 (by simpa using hb)
theorem nodup (h : TOrd n f Z) : Z.Nodup := h.perm.nodup_iff.2 List.nodup_range
theorem len (h : TOrd n f Z) : Z.length = n := by rw [h.perm.length_eq, List.length_range]
theorem before (h : TOrd n f Z) {A D : List Nat} {b p : Nat} (hZ : Z = A ++ b :: D) (hf : f b = some p) : p ∈ A := by
  subst hZ
  have hb : (A ++ b :: D)[A.length]? = some b := by simp
  obtain ⟨hl, hg⟩ := List.getElem?_eq_some_iff.1 hb
  rcases Nat.eq_zero_or_pos A.length with h0 | h0
  · have := h.root (by simp; omega)
    have e : (A ++ b :: D)[0]? = some b := by rw [← h0]; exact hb
    rw [(List.getElem?_eq_some_iff.1 e).2] at this
    rw [this] at hf
    cases hf
  · obtain ⟨q, h1, h2⟩ := h.par A.length hl h0
    rw [hg, hf] at h1
    cases h1
    simpa using h2
theorem ups (h : TOrd n f Z) : ∀ i (hi : i < Z.length), ∃ U, Gy.Up f Z[i] U ∧ ∀ x, x ∈ U → x ∈ Z.take (i + 1) := by
  intro i
  induction i using Nat.strongRecOn with
  | ind i ih =>
    intro hi
    rcases Nat.eq_zero_or_pos i with rfl | h0
    · exact ⟨_, .root (h.root hi), fun x hx => by
        rw [List.mem_singleton] at hx
        subst hx
        rw [List.mem_take_iff_getElem]
        exact ⟨0, by omega, rfl⟩⟩
    · obtain ⟨p, h1, h2⟩ := h.par i hi h0
      obtain ⟨j, hj, rfl⟩ := List.mem_take_iff_getElem.1 h2
      obtain ⟨U, u1, u2⟩ := ih j (by omega) (by omega)
      refine ⟨_, .step h1 u1, fun x hx => ?_⟩
      rcases List.mem_cons.1 hx with rfl | hx
      · rw [List.mem_take_iff_getElem]; exact ⟨i, by omega, rfl⟩
      · obtain ⟨k, hk, rfl⟩ := List.mem_take_iff_getElem.1 (u2 x hx)
        rw [List.mem_take_iff_getElem]
        exact ⟨k, by omega, rfl⟩
end TOrd
/-- has each row of one a match in the other? -/
def Match2 (l : List Rel) (a b : Nat) : Prop := ∀ x, x ∈ (l.getD a zR).rows → ∃ y, y ∈ (l.getD b zR).rows ∧ Agree ((l.getD a zR).cols, x) ((l.getD b zR).cols, y)
def semiAt (l : List Rel) (i k : Nat) : List Rel := l.set i (semiR (l.getD i zR) (l.getD k zR))
theorem stepJ_semi {l : List Rel} (hr : AllRight l) {i k : Nat} (hi : i < l.length) (hk : k < l.length) (hik : i ≠ k) : stepJ l ((i : Int), (k : Int)) = semiAt l i k := by
  unfold stepJ semiAt
  rw [if_pos ⟨by show (i : Int) ≠ k; omega, by show (0 : Int) ≤ i; omega, by show (i : Int) < _; omega, by show (0 : Int) ≤ k; omega, by show (k : Int) < _; omega⟩]
  show l.set (i : Int).toNat _ = _
  rw [held_getD hr, held_getD hr]
  rfl
theorem semiAt_get {l : List Rel} {i k j : Nat} (hi : i < l.length) : (semiAt l i k).getD j zR = if j = i then semiR (l.getD i zR) (l.getD k zR) else l.getD j zR := getD_setR hi
theorem Match2.keep {l : List Rel} {i k a b : Nat} (h : Match2 l a b) (hi : i < l.length) (hb : b ≠ i) : Match2 (semiAt l i k) a b := by
  intro x hx
  have e : (semiAt l i k).getD b zR = l.getD b zR := by rw [semiAt_get hi, if_neg hb]
  rw [e]
  have hc : ((semiAt l i k).getD a zR).cols = (l.getD a zR).cols ∧ x ∈ (l.getD a zR).rows := by
    rw [semiAt_get hi] at hx ⊢
    by_cases ha : a = i
    · subst ha
      rw [if_pos rfl] at hx ⊢
      exact ⟨rfl, (List.mem_filter.1 hx).1⟩
    · rw [if_neg ha] at hx ⊢
      exact ⟨rfl, hx⟩
  rw [hc.1]
  exact h x hc.2
theorem semi_mem {a b : Rel} {x : List Val} (h : x ∈ (semiR a b).rows) : x ∈ a.rows ∧ ∃ y, y ∈ b.rows ∧ Agree (a.cols, x) (b.cols, y) := by
  obtain ⟨h1, h2⟩ := List.mem_filter.1 h
  simp only [beq_true] at h2
  obtain ⟨y, hy, hm⟩ := List.any_eq_true.1 h2
  exact ⟨h1, y, hy, meetB_iff.1 hm⟩
theorem mem_semi {a b : Rel} {x y : List Val} (h : x ∈ a.rows) (hy : y ∈ b.rows) (hm : Agree (a.cols, x) (b.cols, y)) : x ∈ (semiR a b).rows := by
  refine List.mem_filter.2 ⟨h, ?_⟩
  simp only [beq_true]
  exact List.any_eq_true.2 ⟨y, hy, meetB_iff.2 hm⟩
theorem Match2.made {l : List Rel} {i k : Nat} (hi : i < l.length) (hik : i ≠ k) : Match2 (semiAt l i k) i k := by
  intro x hx
  have e1 : (semiAt l i k).getD i zR = semiR (l.getD i zR) (l.getD k zR) := by rw [semiAt_get hi, if_pos rfl]
  have e2 : (semiAt l i k).getD k zR = l.getD k zR := by rw [semiAt_get hi, if_neg (Ne.symm hik)]
  rw [e1] at hx ⊢
  rw [e2]
  exact (semi_mem hx).2
theorem Match2.back {l : List Rel} {i k : Nat} (h : Match2 l k i) (hi : i < l.length) (hik : i ≠ k) : Match2 (semiAt l i k) k i := by
  intro x hx
  have e1 : (semiAt l i k).getD i zR = semiR (l.getD i zR) (l.getD k zR) := by rw [semiAt_get hi, if_pos rfl]
  have e2 : (semiAt l i k).getD k zR = l.getD k zR := by rw [semiAt_get hi, if_neg (Ne.symm hik)]
  rw [e2] at hx ⊢
  rw [e1]
  obtain ⟨y, hy, ha⟩ := h x hx
  exact ⟨y, mem_semi hy hx ha.symm, ha⟩
def upH (f : Nat → Option Nat) (b : Nat) : List (Int × Int) := match f b with | some p => [((p : Int), (b : Int))] | none => []
def dnH (f : Nat → Option Nat) (b : Nat) : List (Int × Int) := match f b with | some p => [((b : Int), (p : Int))] | none => []
def upP (f : Nat → Option Nat) (Z : List Nat) : List (Int × Int) := Z.reverse.flatMap (upH f)
def dnP (f : Nat → Option Nat) (Z : List Nat) : List (Int × Int) := Z.flatMap (dnH f)
theorem up_phase {n : Nat} {f : Nat → Option Nat} {Z : List Nat} (ho : TOrd n f Z) {l : List Rel} (hr : AllRight l) (hl : l.length = n) : ∀ (D A : List Nat), Z = A ++ D → ∀ b p, b ∈ D → f b = some p → Match2 (playJ l (upP f D)) p b
  | [], _, _, b, _, hb, _ => by cases hb
  | c :: D, A, hZ, b, p, hb, hf => by
    have ih := up_phase ho hr hl D (A ++ [c]) (by rw [hZ]; simp)
    have hnd : (A ++ c :: D).Nodup := by rw [← hZ]; exact ho.nodup
    have e : upP f (c :: D) = upP f D ++ upH f c := by unfold upP; rw [List.reverse_cons, List.flatMap_append]; simp
    rw [e, playJ_app]
    have hr1 : AllRight (playJ l (upP f D)) := playJ_right _ hr
    have hl1 : (playJ l (upP f D)).length = n := by rw [playJ_len, hl]
    generalize playJ l (upP f D) = l1 at *
    unfold upH
    have hcn : c < n := ho.lt (by rw [hZ]; simp)
    cases hc : f c with
    | none =>
      rcases List.mem_cons.1 hb with rfl | hb
      · rw [hc] at hf; cases hf
      · exact ih b p hb hf
    | some q =>
      have hqA := ho.before hZ hc
      have hqn : q < n := ho.lt (by rw [hZ]; simp [hqA])
      have hqc : q ≠ c := by
        rintro rfl
        rw [List.nodup_append] at hnd
        exact hnd.2.2 _ hqA _ List.mem_cons_self rfl
      show Match2 (stepJ l1 _) p b
      rw [stepJ_semi hr1 (by omega) (by omega) hqc]
      rcases List.mem_cons.1 hb with rfl | hb
      · rw [hc] at hf
        cases hf
        exact Match2.made (by omega) hqc
      · refine (ih b p hb hf).keep (by omega) ?_
        rintro rfl
        rw [List.nodup_append] at hnd
        exact hnd.2.2 _ hqA _ (List.mem_cons_of_mem _ hb) rfl
theorem down_phase {n : Nat} {f : Nat → Option Nat} {Z : List Nat} (ho : TOrd n f Z) {l : List Rel} (hr : AllRight l) (hl : l.length = n) (h0 : ∀ b p, b < n → f b = some p → Match2 l p b) : ∀ (m : Nat) (A D : List Nat), A.length = m → Z = A ++ D →
    (∀ b p, b ∈ A → f b = some p → Match2 (playJ l (dnP f A)) b p) ∧ ∀ b p, b < n → f b = some p → Match2 (playJ l (dnP f A)) p b
  | 0, A, D, hA, hZ => by
    obtain rfl := List.eq_nil_of_length_eq_zero hA
    exact ⟨fun b p hb _ => absurd hb List.not_mem_nil, h0⟩
  | m + 1, A, D, hA, hZ => by
    rcases List.eq_nil_or_concat A with rfl | ⟨A, c, rfl⟩
    · cases hA
    rw [List.concat_eq_append] at hA hZ ⊢
    have ih := down_phase ho hr hl h0 m A (c :: D) (by simpa using hA) (by rw [hZ]; simp)
    have hnd : (A ++ [c] ++ D).Nodup := by rw [← hZ]; exact ho.nodup
    have hZ2 : Z = A ++ c :: D := by rw [hZ]; simp
    have e : dnP f (A ++ [c]) = dnP f A ++ dnH f c := by unfold dnP; rw [List.flatMap_append]; simp
    rw [e, playJ_app]
    have hr1 : AllRight (playJ l (dnP f A)) := playJ_right _ hr
    have hl1 : (playJ l (dnP f A)).length = n := by rw [playJ_len, hl]
    generalize playJ l (dnP f A) = l1 at *
    obtain ⟨i1, i2⟩ := ih
    unfold dnH
    have hcn : c < n := ho.lt (by rw [hZ]; simp)
    have hcA : c ∉ A := by
      intro h
      rw [List.append_assoc, List.nodup_append] at hnd
      exact hnd.2.2 _ h _ (by simp) rfl
    cases hc : f c with
    | none =>
      refine ⟨fun b p hb hf => ?_, i2⟩
      rcases List.mem_append.1 hb with hb | hb
      · exact i1 b p hb hf
      · rw [List.mem_singleton] at hb
        subst hb
        rw [hc] at hf; cases hf
    | some q =>
      have hqA := ho.before hZ2 hc
      have hqn : q < n := ho.lt (by rw [hZ]; simp [hqA])
      have hqc : c ≠ q := by rintro rfl; exact hcA hqA
      show (∀ b p, b ∈ A ++ [c] → f b = some p → Match2 (stepJ l1 _) b p) ∧ ∀ b p, b < n → f b = some p → Match2 (stepJ l1 _) p b
      rw [stepJ_semi hr1 (by omega) (by omega) hqc]
      refine ⟨fun b p hb hf => ?_, fun b p hb hf => ?_⟩
      · rcases List.mem_append.1 hb with hb3 | hb
        · refine (i1 b p hb3 hf).keep (by omega) ?_
          rintro rfl
          obtain ⟨A1, A2, hA12⟩ := List.append_of_mem hb3
          have := ho.before (A := A1) (D := A2 ++ p :: D) (by rw [hZ2, hA12]; simp) hf
          exact hcA (by rw [hA12]; exact List.mem_append_left _ this)
        · rw [List.mem_singleton] at hb
          subst hb
          rw [hc] at hf
          cases hf
          exact Match2.made (by omega) hqc
      · by_cases hbc : b = c
        · subst hbc
          rw [hc] at hf
          cases hf
          exact (i2 b q hb hc).back (by omega) hqc
        · exact (i2 b p hb hf).keep (by omega) hbc
theorem play_reduced {n : Nat} {f : Nat → Option Nat} {Z : List Nat} (ho : TOrd n f Z) {l : List Rel} (hr : AllRight l) (hl : l.length = n) {b p : Nat} (hb : b < n) (hf : f b = some p) :
    Match2 (playJ l (upP f Z ++ dnP f Z)) p b ∧ Match2 (playJ l (upP f Z ++ dnP f Z)) b p := by
  rw [playJ_app]
  have h1 := up_phase ho hr hl Z [] rfl
  obtain ⟨h2, h3⟩ := down_phase ho (playJ_right (upP f Z) hr) (by rw [playJ_len, hl]) (fun b p hb hf => h1 b p (ho.mem hb) hf) _ Z [] rfl (by simp)
  exact ⟨h3 b p hb hf, h2 b p (ho.mem hb) hf⟩
/-- what a join tree of relations is -/
def Hangs (n : Nat) (f : Nat → Option Nat) (l : List Rel) : Prop := ∀ v a b, a < n → b < n → v ∈ (l.getD a zR).cols → v ∈ (l.getD b zR).cols → Wk (nbr f) (fun k => v ∈ (l.getD k zR).cols) a b
theorem ext_row {n : Nat} {f : Nat → Option Nat} {Z : List Nat} (ho : TOrd n f Z) {l : List Rel} (hl : l.length = n) (hm : ∀ b p, b < n → f b = some p → Match2 l p b) (hj : Hangs n f l) {k : Nat} (hk0 : 0 < k) (hk : k < Z.length) {t : List Ent} (ht : t ∈ tupsR ((Z.take k).map fun i => l.getD i zR)) (hc : consB t = true) :
    ∃ y, y ∈ (l.getD Z[k] zR).rows ∧ consB (t ++ [((l.getD Z[k] zR).cols, y)]) = true := by
  obtain ⟨p, hp, hpm⟩ := ho.par k hk hk0
  obtain ⟨j, hj1, hj2⟩ := List.mem_take_iff_getElem.1 hpm
  have hjk : j < k := by omega
  have hbn : Z[k] < n := ho.lt (List.getElem_mem _)
  obtain ⟨ht1, ht2⟩ := tups_mem.1 ht
  have hlen : ((Z.take k).map fun i => l.getD i zR).length = k := by simp; omega
  have hent : ∀ i (hi : i < k), t[i].1 = (l.getD Z[i] zR).cols ∧ t[i].2 ∈ (l.getD Z[i] zR).rows := fun i hi => by
    have := ht2 i (by omega) (by omega)
    rw [List.getElem_map, List.getElem_take] at this
    exact this
  obtain ⟨e1, e2⟩ := hent j hjk
  rw [hj2] at e1 e2
  obtain ⟨y, hy, hag⟩ := hm Z[k] p hbn hp _ e2
  refine ⟨y, hy, consB_snoc.2 ⟨hc, fun e he c h1 h2 => ?_⟩⟩
  obtain ⟨m, hm1, rfl⟩ := List.getElem_of_mem he
  have hmk : m < k := by omega
  obtain ⟨f1, f2⟩ := hent m hmk
  rw [f1] at h1
  have hwk := hj c Z[k] Z[m] hbn (ho.lt (List.getElem_mem _)) h2 h1
  obtain ⟨A, a1, a2⟩ := ho.ups k hk
  obtain ⟨B, b1, b2⟩ := ho.ups m (by omega)
  have hin : Z[k] ∈ A := by cases a1 <;> simp
  have hnin : Z[k] ∉ B := fun h => by
    obtain ⟨i, hi, he⟩ := List.mem_take_iff_getElem.1 (b2 _ h)
    have := (List.getElem_inj ho.nodup).1 he
    omega
  obtain ⟨_, q, hq, hcq⟩ := hwk.exit a1 b1 hin hnin
  rw [hp] at hq
  cases hq
  have h3 := pairs_same (consB_iff.1 hc) (List.getElem_mem hm1) (List.getElem_mem (show j < t.length by omega)) (c := c) (by rw [f1]; exact h1) (by rw [e1]; exact hcq)
  obtain ⟨g1, g2⟩ := hag c hcq h2
  have h4 : getE t[j] c = getE ((l.getD p zR).cols, t[j].2) c := by unfold getE; rw [e1]
  rw [h3, h4]
  exact ⟨g1, g2⟩
/-- one more never has fewer rows -/
theorem rises_one {n : Nat} {f : Nat → Option Nat} {Z : List Nat} (ho : TOrd n f Z) {l : List Rel} (hl : l.length = n) (hm : ∀ b p, b < n → f b = some p → Match2 l p b) (hj : Hangs n f l) {k : Nat} (hk0 : 0 < k) (hk : k < Z.length) :
    (allJ ((Z.take k).map fun i => l.getD i zR)).rows.length ≤ (allJ ((Z.take (k + 1)).map fun i => l.getD i zR)).rows.length := by
  have e : (Z.take (k + 1)).map (fun i => l.getD i zR) = (Z.take k).map (fun i => l.getD i zR) ++ [l.getD Z[k] zR] := by
    rw [List.take_succ_eq_append_getElem hk, List.map_append]; rfl
  rw [e, allJ_rows, allJ_rows, tups_snoc]
  generalize hL : (Z.take k).map (fun i => l.getD i zR) = L
  have key : ∀ T : List (List Ent), (∀ t, t ∈ T → t ∈ tupsR L) → (T.filterMap (rowT (colsL L))).length ≤ ((T.flatMap fun t => (l.getD Z[k] zR).rows.map fun x => t ++ [((l.getD Z[k] zR).cols, x)]).filterMap (rowT (colsL (L ++ [l.getD Z[k] zR])))).length := by
    intro T
    induction T with
    | nil => intro _; simp
    | cons t T ih =>
      intro hT
      have h1 := ih fun t ht => hT t (List.mem_cons_of_mem _ ht)
      rw [List.flatMap_cons, List.filterMap_append, List.length_append, List.filterMap_cons]
      by_cases hc : consB t = true
      · have h2 : rowT (colsL L) t = some ((colsL L).map (valT t)) := by unfold rowT; rw [if_pos hc]
        rw [h2]
        obtain ⟨y, hy, hcy⟩ := ext_row ho hl hm hj hk0 hk (by rw [hL]; exact hT t List.mem_cons_self) hc
        have h3 : 0 < (((l.getD Z[k] zR).rows.map fun x => t ++ [((l.getD Z[k] zR).cols, x)]).filterMap (rowT (colsL (L ++ [l.getD Z[k] zR])))).length := by
          rw [List.length_pos_iff, Ne, List.filterMap_eq_nil_iff]
          intro h
          have := h _ (List.mem_map.2 ⟨y, hy, rfl⟩)
          unfold rowT at this
          rw [if_pos hcy] at this
          cases this
        simp only [List.length_cons]
        omega
      · have h2 : rowT (colsL L) t = none := by unfold rowT; rw [if_neg hc]
        rw [h2]
        simp only
        omega
  exact key _ fun t h => h
theorem map_range (l : List Rel) : (List.range l.length).map (fun i => l.getD i zR) = l := by
  apply List.ext_getElem
  · simp
  · intro i h1 h2
    rw [List.getElem_map, List.getElem_range, getD_ltR h2]
end Go.Proofs.YtjplcdeaedflpaaGreatDoor.PL
namespace Go.Proofs.YtjplcdeaedflpaaGreatDoor.PL
open Go.Proofs Go.RowKit
set_option linter.unusedVariables false
set_option linter.unusedSimpArgs false
theorem prodR_set : ∀ (l : List Rel) (i : Nat) (r : Rel), r.rows.length ≤ (l.getD i zR).rows.length → prodR (l.set i r) ≤ prodR l
  | [], i, r, _ => Nat.le_refl _
  | a :: l, 0, r, h => Nat.mul_le_mul_right _ (by have : r.rows.length ≤ a.rows.length := h; omega)
  | a :: l, i + 1, r, h => Nat.mul_le_mul_left _ (prodR_set l i r h)
theorem OkL.step' {l : List Rel} (h : OkL l) (p : Int × Int) : OkL (stepJ l p) := by
  have hp := h.okP.step p
  refine ⟨hp.ok, hp.nc, hp.len, Nat.le_trans ?_ h.pr⟩
  unfold stepJ
  split
  · refine prodR_set l _ _ ?_
    refine Nat.le_trans (List.length_filter_le ..) ?_
    exact held_rows _
  · exact Nat.le_refl _
theorem OkL.play {prog : List (Int × Int)} : ∀ {l : List Rel}, OkL l → OkL (playJ l prog) := by
  induction prog with
  | nil => intro l h; exact h
  | cons p prog ih => intro l h; exact ih (h.step' p)
theorem prodR_range : ∀ (l : List Rel) (n : Nat), prodR ((List.range n).map fun i => l.getD i zR) ≤ prodR l
  | l, 0 => prodR_pos l
  | [], n + 1 => by
    have : ∀ m, prodR ((List.range m).map fun i => ([] : List Rel).getD i zR) = 1 := fun m => by
      rw [show ((List.range m).map fun i => ([] : List Rel).getD i zR) = List.replicate m zR from by
        apply List.ext_getElem
        · simp
        · intro i h1 h2; simp]
      induction m with
      | zero => rfl
      | succ m ih => rw [List.replicate_succ]; show (0 + 1) * _ = 1; rw [ih]
    rw [this]
    exact Nat.le_refl _
  | a :: l, n + 1 => by
    rw [List.range_succ_eq_map, List.map_cons, List.map_map]
    exact Nat.mul_le_mul_left _ (prodR_range l n)
def treeOrd (l : List Rel) (ps : List Int) : List Rel := (downI (heldI ps)).map fun n => l.getD n.toNat zR
theorem treeOrd_len (l : List Rel) (ps : List Int) : (treeOrd l ps).length ≤ ps.length := by
  unfold treeOrd
  rw [List.length_map, downI_len]
  exact heldI_len ps
theorem treeOrd_perm (l : List Rel) (ps : List Int) : (treeOrd l ps).Perm ((List.range (heldI ps).length).map fun i => l.getD i zR) := by
  have h := (downI_of (heldI ps)).1.map fun n : Int => l.getD n.toNat zR
  unfold treeOrd
  refine h.trans ?_
  unfold upTo
  rw [List.map_map]
  exact List.Perm.of_eq (List.map_congr_left fun i _ => by show l.getD (i : Int).toNat zR = _; rw [Int.toNat_natCast])
theorem OkL.order {l : List Rel} (h : OkL l) {ps : List Int} (hp : ps.length ≤ 40) : OkL (treeOrd l ps) := by
  have hin : ∀ r, r ∈ treeOrd l ps → OkR r ∧ r.cols.length ≤ 20 := fun r hr => by
    obtain ⟨n, _, rfl⟩ := List.mem_map.1 hr
    exact h.okP.getD _
  refine ⟨fun r hr => (hin r hr).1, fun r hr => (hin r hr).2, Nat.le_trans (treeOrd_len l ps) hp, ?_⟩
  rw [prodR_perm (treeOrd_perm l ps)]
  exact Nat.le_trans (prodR_range l _) h.pr
def ordF (l : List Rel) (Z : List Int) (i : Nat) : List Rel := (Z.take i).map fun n => l.getD n.toNat zR
theorem ordF_next {l : List Rel} {Z : List Int} {i m : Nat} (h : i < Z.length) (hm : Z[i] = (m : Int)) : ordF l Z (i + 1) = ordF l Z i ++ [l.getD m zR] := by
  unfold ordF
  rw [take_next h, List.map_append, hm]
  rfl
theorem ordF_len {l : List Rel} {Z : List Int} {i : Nat} (h : i ≤ Z.length) : (ordF l Z i).length = i := by unfold ordF; rw [List.length_map, List.length_take]; omega
theorem treeOrd_eq (l : List Rel) (ps : List Int) : treeOrd l ps = ordF l (downI (heldI ps)) (downI (heldI ps)).length := by unfold ordF; rw [List.take_length]; rfl
/-- relations, each with whose its lists are -/
@[simp] abbrev orel (q : Own × Own × Rel) : AV := .agg [.sl q.1 (ints' q.2.2.cols), .sl q.2.1 (rows' q.2.2.rows)]
instance : Sized orel 2 := ⟨fun _ => rfl⟩
theorem Frz.orels {H : List HO} {own : Own} : ∀ {Q : List (Own × Own × Rel)} {R : List Rel}, Q.map (fun q => q.2.2) = R → Frz H (.sl own (avs orel Q)) (.sl .no (rels' R)) := by
  intro Q R hQ
  subst hQ
  refine .sl ?_ (by simp) fun n hn y hy => ?_
  · induction Q with
    | nil => exact .nil
    | cons q Q ih => exact .cons (Frz.slN (f := AV.int .i64)) (.cons (Frz.slN (f := fun r => AV.sl .no (vals' r))) ih)
  · obtain ⟨a, ha, rfl⟩ := mem_avs.1 hy
    obtain ⟨q, hq, rfl⟩ := List.mem_map.1 ha
    have := hn (orel q) (mem_avs.2 ⟨q, hq, rfl⟩)
    rw [← this]
    rfl
def OrdQ (l : List Rel) (Z : List Int) (i : Nat) (H : List HO) (x : AV) : Prop := ∃ Q : List (Own × Own × Rel), Q.map (fun q => q.2.2) = ordF l Z i ∧ ((x = .sl .nil [] ∧ Q = []) ∨ ∃ t, x = .sl (.tok t) (avs orel Q) ∧ H[t]? = some (.spare Q.length 2))
theorem T_rdOrder (l : List Rel) (ps : List Int) (hl : l.length ≤ 1000) (hp : ps.length < 60) : T Tryz.prog 72 [.sl .no (rels' l), .sl .no (ints' ps)] (.sl .no (rels' (treeOrd l ps))) := by
  have kd := T_down ps hp
  rw [treeOrd_eq]
  have hin : ∀ k (h : k < (downI (heldI ps)).length), ∃ m : Nat, (downI (heldI ps))[k] = m ∧ m < ps.length := fun k h => (down_in (List.getElem_mem h)).2
  have hZn : (downI (heldI ps)).length < 60 := by
    have h1 := heldI_len ps
    rw [downI_len]
    omega
  generalize downI (heldI ps) = Z at *
  refine T.introF (TS.body mix Tryz.func72 (by kernel_rfl) rfl (by kernel_rfl) (by simp) ?_)
  simp
  refine TS.callW kd (Dws.self (by simp)) ?_
  simp
  refine vc_loop (fun i : Nat => Z.length - i) (fun i e H => e 0 = .sl .no (rels' l) ∧ e 10 = .sl .no (ints' Z) ∧ e 11 = .int .i64 Z.length ∧ e 12 = .int .i64 i ∧ i ≤ Z.length ∧ OrdQ l Z i H (e 5)) 0 ?_ ?_
  · simp
    exact ⟨[], rfl, .inl ⟨rfl, rfl⟩⟩
  rintro i e H ⟨e0, e10, e11, e12, hi, Q, hQ, hg⟩
  by_cases hlt : i < Z.length
  · have ew := wrap_next hlt (by omega)
    obtain ⟨m, hm1, hm2⟩ := hin i hlt
    have hnx := ordF_next (l := l) hlt hm1
    have hml : Q.length = i := by
      have := congrArg List.length hQ
      rwa [List.length_map, ordF_len hi] at this
    obtain ⟨z, hz⟩ : ∃ z, z = l.getD m zR := ⟨_, rfl⟩
    rw [← hz, ← hQ] at hnx
    by_cases hml2 : m < l.length
    · have hzz : l[m] = z := by rw [hz, getD_ltR hml2]
      rcases hg with ⟨gx, ge⟩ | ⟨t, gx, ht⟩
      · simp [e0, e10, e11, e12, hlt, hm1, hml2, hzz, gx]
        refine ⟨i + 1, by omega, ew, by omega, [(.no, .no, z)], ?_, .inr ⟨H.length + 1, rfl, by simp⟩⟩
        rw [hnx, ge]; rfl
      · have htl := (List.getElem?_eq_some_iff.1 ht).1
        have ht2 : ∀ Y : List HO, (H ++ Y)[t]? = some (.spare Q.length 2) := fun Y => by rw [List.getElem?_append_left htl]; exact ht
        simp [e0, e10, e11, e12, hlt, hm1, hml2, hzz, gx, ht2]
        refine ⟨by omega, i + 1, by omega, ew, by omega, Q ++ [(.no, .no, z)], ?_, .inr ⟨t, by simp [avs], by rw [List.getElem?_set_self (by simp; omega)]; simp⟩⟩
        rw [hnx, List.map_append]; rfl
    · have hzz : zR = z := by rw [hz, List.getD_eq_getElem?_getD, List.getElem?_eq_none (by omega)]; rfl
      rcases hg with ⟨gx, ge⟩ | ⟨t, gx, ht⟩
      · simp [e0, e10, e11, e12, hlt, hm1, hml2, gx]
        refine ⟨i + 1, by omega, ew, by omega, [(.exact, .exact, z)], ?_, .inr ⟨H.length + 1, by rw [← hzz]; rfl, by simp⟩⟩
        rw [hnx, ge]; rfl
      · have htl := (List.getElem?_eq_some_iff.1 ht).1
        have ht2 : ∀ Y : List HO, (H ++ Y)[t]? = some (.spare Q.length 2) := fun Y => by rw [List.getElem?_append_left htl]; exact ht
        simp [e0, e10, e11, e12, hlt, hm1, hml2, gx, ht2]
        refine ⟨by omega, i + 1, by omega, ew, by omega, Q ++ [(.exact, .exact, z)], ?_, .inr ⟨t, by rw [← hzz]; simp [avs, zR], by rw [List.getElem?_set_self (by simp; omega)]; simp⟩⟩
        rw [hnx, List.map_append]; rfl
  · have : i = Z.length := by omega
    subst this
    have hown : ∃ own, e 5 = .sl own (avs orel Q) := by
      rcases hg with ⟨gx, ge⟩ | ⟨t, gx, ht⟩
      · rw [ge]; exact ⟨_, gx⟩
      · exact ⟨_, gx⟩
    obtain ⟨own, gx⟩ := hown
    simp [e0, e10, e11, e12, gx]
    exact Frz.orels hQ
theorem T_rRight25 (l : List Rel) (h : OkL l) : T Tryz.prog 35 [.sl .no (rels' l)] (.bool (l.all rightR)) := by
  have hlen := h.len
  refine T.intro (TS.body mix Tryz.func35 (by kernel_rfl) rfl (by kernel_rfl) (by simp) ?_)
  simp
  refine vc_loop (fun i : Nat => l.length - i) (fun i e H => e 0 = .sl .no (rels' l) ∧ e 3 = .int .i64 i ∧ i ≤ l.length ∧ (l.take i).all rightR = true) 0 ?_ ?_
  · simp
  rintro i e H ⟨e0, e3, hi, ha⟩
  by_cases hlt : i < l.length
  · have ew := wrap_next hlt (by omega)
    have k := T_rright24 l[i] (h.ok _ (List.getElem_mem hlt))
    simp [e0, e3, hlt]
    refine TS.callW k (Dws.self (by simp)) ?_
    cases hr : rightR l[i] with
    | false =>
      have : l.all rightR = false := by
        rw [List.all_eq_false]
        exact ⟨_, List.getElem_mem hlt, by rw [hr]; simp⟩
      simp [this]
    | true =>
      simp [e0, e3]
      refine ⟨i + 1, by omega, ew, by omega, ?_⟩
      have hnx : (l.take (i + 1)).all rightR = true := by rw [take_next hlt, List.all_append, ha, List.all_cons, hr]; rfl
      simpa using hnx
  · have : i = l.length := by omega
    subst this
    rw [List.take_length] at ha
    simp [e0, e3, ha]
/-- how many rows the first ones have, together -/
def sizesR (L : List Rel) (k : Nat) : List Int := (List.range k).map fun i => ((allH L (i + 1)).rows.length : Int)
theorem sizesR_next (L : List Rel) (k : Nat) : sizesR L (k + 1) = sizesR L k ++ [((allH L (k + 1)).rows.length : Int)] := by unfold sizesR; rw [List.range_succ, List.map_append]; rfl
theorem sizesR_len (L : List Rel) (k : Nat) : (sizesR L k).length = k := by simp [sizesR]
def SzJ (L : List Rel) (i : Nat) (H : List HO) (x : AV) : Prop := ∃ z J, H = .box z :: J ∧ ((i = 0 ∧ z = [.sl .exact [], .sl .exact []]) ∨ (0 < i ∧ z = (allH L i).cs)) ∧ ((x = .sl .nil [] ∧ i = 0) ∨ 0 < i ∧ ∃ t, x = .sl (.tok (t + 1)) (ints' (sizesR L i)) ∧ J[t]? = some (.spare i 1))
theorem T_rdSizes (l : List Rel) (ps : List Int) (h : OkL l) (hp : ps.length ≤ 40) : T Tryz.prog 38 [.sl .no (rels' l), .sl .no (ints' ps)] (.sl .no (ints' (sizesR (treeOrd l ps) (treeOrd l ps).length))) := by
  have hlen := h.len
  have k1 := T_rdOrder l ps (by omega) (by omega)
  have hL := h.order hp
  generalize treeOrd l ps = L at *
  have hLl := hL.len
  refine T.introF (TS.body mix Tryz.func38 (by kernel_rfl) rfl (by kernel_rfl) (by simp) ?_)
  simp
  refine TS.callW k1 (Dws.self (by simp)) ?_
  simp
  refine vc_loop (fun i : Nat => L.length - i) (fun i e H => e 6 = .ptr 0 0 ∧ e 11 = .sl .no (rels' L) ∧ e 12 = .int .i64 L.length ∧ e 13 = .int .i64 i ∧ i ≤ L.length ∧ SzJ L i H (e 5)) 0 ?_ ?_
  · simp
    exact ⟨_, _, rfl, .inl ⟨rfl, rfl⟩, .inl ⟨rfl, rfl⟩⟩
  rintro i e H ⟨e6, e11, e12, e13, hi, z, J, rfl, hz, hg⟩
  by_cases hlt : i < L.length
  · have ew := wrap_next hlt (by omega)
    obtain ⟨s1, s2, s3, s4⟩ := hL.stepH hlt
    have hnx := sizesR_next L i
    have hok := (hL.take (i + 1)).held.all
    have hnr : (allH L (i + 1)).rows.length ≤ 100000 := hok.nr
    simp [e6, e11, e12, e13, hlt]
    rcases hz with ⟨h0, rfl⟩ | ⟨h0, rfl⟩
    · subst h0
      have k2 := T_sall (L.take 1) (hL.take 1)
      have e1 : L.take 1 = [L[0]] := by
        have := take_next hlt
        simpa using this
      have ea : allJ ((L.take 1).map heldR) = allH L 1 := rfl
      rw [ea, e1] at k2
      rcases hg with ⟨gx, _⟩ | ⟨hc, _⟩
      · simp [e6, e11, e12, e13, hlt, gx]
        refine TS.callW k2 (.cons (.sl (Dws.self (by simp))) .nil) ?_
        simp [e6, e11, e12, e13, hlt, gx]
        exact ⟨1, by omega, rfl, by omega, _, _, rfl, .inr ⟨by omega, rfl⟩, .inr ⟨by omega, J.length + 1, rfl, by simp⟩⟩
      · omega
    · have h0' : ¬ i = 0 := by omega
      have k3 := T_sjoin _ _ s1 s2 s3
      rw [s4] at k3
      rcases hg with ⟨gx, hc⟩ | ⟨_, t, gx, ht⟩
      · exact absurd hc h0'
      have htl := (List.getElem?_eq_some_iff.1 ht).1
      have ht2 : ∀ Y : List HO, (J ++ Y)[t]? = some (.spare i 1) := fun Y => by rw [List.getElem?_append_left htl]; exact ht
      have hsl := sizesR_len L i
      simp [e6, e11, e12, e13, hlt, gx, h0']
      refine TS.callW k3 (Dws.self (by simp)) ?_
      simp [e6, e11, e12, e13, hlt, gx, ht2, hsl]
      exact ⟨⟨by omega, by omega⟩, i + 1, by omega, ew, by omega, _, _, rfl, .inr ⟨by omega, rfl⟩, .inr ⟨by omega, t, by rw [hnx], by rw [List.getElem?_set_self (by simp; omega)]⟩⟩
  · have : i = L.length := by omega
    subst this
    have hown : ∃ own, e 5 = .sl own (ints' (sizesR L L.length)) := by
      rcases hg with ⟨gx, h0⟩ | ⟨_, t, gx, ht⟩
      · rw [h0]; exact ⟨_, gx⟩
      · exact ⟨_, gx⟩
    obtain ⟨own, gx⟩ := hown
    simp [e6, e11, e12, e13, gx]
    exact Frz.slN (f := AV.int .i64)
end Go.Proofs.YtjplcdeaedflpaaGreatDoor.PL
namespace Go.Proofs.YtjplcdeaedflpaaGreatDoor.PL
open Go.Proofs Go.RowKit
set_option linter.unusedVariables false
set_option linter.unusedSimpArgs false
theorem up_in {f : Nat → Option Nat} {m : Nat} {R : List Nat} : ∀ {P : List Nat} {a k : Nat} {N : List Nat}, Gy.Up f a (P ++ m :: R) → k ∈ P → Gy.Up f k N → m ∈ N
  | [], a, k, N, _, h, _ => by cases h
  | x :: P, a, k, N, h, hk, hN => by
    generalize hL : x :: P ++ m :: R = L at h
    cases h with
    | root hf => simp at hL
    | @step _ p U hf hU =>
      rw [List.cons_append] at hL
      injection hL with h1 h2
      subst h1
      subst h2
      rcases List.mem_cons.1 hk with rfl | hk
      · have h2 : Gy.Up f k (k :: (P ++ m :: R)) := .step hf hU
        rw [hN.uniq h2]
        simp
      · exact up_in hU hk hN
theorem joins_hang {h : List (List Int)} {ps : List Int} (hj : joinsP h ps) : ∀ v a b, vx h a v → vx h b v → Wk (nbr (fOf ps)) (fun k => vx h k v) a b := by
  obtain ⟨hl, htr, hp⟩ := hj
  have key : ∀ v a b : Nat, True := fun _ _ _ => trivial
  have key : ∀ (v : Int) (a b : Nat), b < a → vx h a v → vx h b v → Wk (nbr (fOf ps)) (fun k => vx h k v) a b := by
    intro v a b hab ha hb
    have hal := vx_lt ha
    have hbl := vx_lt hb
    obtain ⟨P1, P2, m, R, h1, h2, h3⟩ := path_two htr (i := a) (j := b) (by omega) (by omega)
    refine h1.conn.1 fun k hk => ?_
    have hkn := h3 k hk
    obtain ⟨N, n1, n2, n3⟩ := tree_ok htr k hkn
    have hmN : m ∈ N := by
      rw [List.mem_append, List.mem_cons, List.mem_reverse] at hk
      rcases hk with hk | rfl | hk
      · exact up_in h1.u1 hk n1
      · cases n1 <;> simp
      · exact up_in h1.u2 hk n1
    have hmeet : Gy.meet (P1 ++ m :: R) (P2 ++ m :: R) = some m := by
      unfold Gy.meet
      rw [List.find?_append, List.find?_eq_none.2 fun x hx => by simpa using h1.d x hx]
      simp
    have hin : k ∈ P1 ++ m :: R ∨ k ∈ P2 ++ m :: R := by
      rw [List.mem_append, List.mem_cons, List.mem_reverse] at hk
      rcases hk with hk | rfl | hk
      · exact .inl (List.mem_append_left _ hk)
      · exact .inl (by simp)
      · exact .inr (List.mem_append_left _ hk)
    have hpath := (path_on (tree_ok htr) (by omega) (by omega) hkn).2 ⟨_, _, _, _, h1.u1, h1.u2, n1, hin, hmeet, hmN⟩
    exact withinI_iff.1 (hp a b k hal hab (by omega) hpath) v (sharedI_mem.2 ⟨ha, hb⟩)
  intro v a b ha hb
  rcases Nat.lt_trichotomy a b with h1 | h1 | h1
  · exact (key v b a h1 hb ha).symm nbr_symm
  · subst h1; exact .refl ha
  · exact key v a b h1 ha hb
/-- a tree's nodes from the root on, as numbers -/
abbrev downN (ps : List Int) : List Nat := (downI ps).map Int.toNat
theorem downN_at {ps : List Int} {i : Nat} (h : i < (downN ps).length) : ∃ h' : i < (downI ps).length, (downI ps)[i] = ((downN ps)[i] : Int) ∧ (downN ps)[i] < ps.length := by
  have h' : i < (downI ps).length := by simpa [downN] using h
  refine ⟨h', ?_⟩
  have hm := (downI_of ps).1.mem_iff.1 (List.getElem_mem h')
  unfold upTo at hm
  obtain ⟨m, hm, e⟩ := List.mem_map.1 hm
  have hm := List.mem_range.1 hm
  have e2 : (downN ps)[i] = m := by
    unfold downN
    rw [List.getElem_map, ← e]
    rfl
  rw [e2]
  exact ⟨e.symm, hm⟩
theorem dpt_par {ps : List Int} (htr : treeI ps = true) {b p : Nat} (hb : b < ps.length) (hf : fOf ps b = some p) : p < ps.length ∧ dpt ps (b : Int) = dpt ps (p : Int) + 1 := by
  obtain ⟨U, u1, u2, u3⟩ := tree_ok htr b hb
  cases u1 with
  | root h => rw [hf] at h; cases h
  | @step _ q W h t =>
    rw [hf] at h
    cases h
    have hp : p < ps.length := u2 p (List.mem_cons_of_mem _ (by cases t <;> simp))
    obtain ⟨V, v1, v2, v3⟩ := tree_ok htr p hp
    have := v1.uniq t
    subst this
    refine ⟨hp, ?_⟩
    unfold dpt
    rw [u3, v3]
    simp [nI]
theorem tree_before {ps : List Int} (htr : treeI ps = true) {i : Nat} (h : i < (downN ps).length) {p : Nat} (hf : fOf ps (downN ps)[i] = some p) : ∃ j, ∃ h' : j < (downN ps).length, j < i ∧ (downN ps)[j] = p := by
  obtain ⟨hi, e, hlt⟩ := downN_at h
  obtain ⟨hp, hd⟩ := dpt_par htr hlt hf
  have hmem : (p : Int) ∈ downI ps := (downI_of ps).1.mem_iff.2 (by unfold upTo; exact List.mem_map.2 ⟨p, by simpa using hp, rfl⟩)
  obtain ⟨j, hj, hje⟩ := List.getElem_of_mem hmem
  have hj' : j < (downN ps).length := by simpa [downN] using hj
  refine ⟨j, hj', ?_, ?_⟩
  · rcases Nat.lt_trichotomy j i with h1 | h1 | h1
    · exact h1
    · subst h1
      rw [e] at hje
      have : dpt ps ((downN ps)[j] : Int) = dpt ps (p : Int) := by rw [hje]
      omega
    · have := List.pairwise_iff_getElem.1 (downI_of ps).2 i j hi hj h1
      rw [e, hje] at this
      unfold dleP at this
      omega
  · unfold downN
    rw [List.getElem_map, hje]
    rfl
theorem tree_ord {ps : List Int} (htr : treeI ps = true) : TOrd ps.length (fOf ps) (downN ps) := by
  have hperm : (downN ps).Perm (List.range ps.length) := by
    have := (downI_of ps).1.map Int.toNat
    refine this.trans (List.Perm.of_eq ?_)
    unfold upTo
    rw [List.map_map]
    have : ∀ l : List Nat, l.map (Int.toNat ∘ fun k : Nat => (k : Int)) = l := fun l => by
      induction l with
      | nil => rfl
      | cons a l ih => rw [List.map_cons, ih]; rfl
    exact this _
  have hroot : ∀ (h : 0 < (downN ps).length), fOf ps (downN ps)[0] = none := fun h => by
    cases hf : fOf ps (downN ps)[0] with
    | none => rfl
    | some p =>
      obtain ⟨j, _, hj, _⟩ := tree_before htr h hf
      omega
  refine ⟨hperm, fun i h h0 => ?_, hroot⟩
  cases hf : fOf ps (downN ps)[i] with
  | some p =>
    obtain ⟨j, hj', hj, e⟩ := tree_before htr h hf
    exact ⟨p, rfl, by rw [List.mem_take_iff_getElem]; exact ⟨j, by omega, e⟩⟩
  | none =>
    exfalso
    have h00 := hroot (by omega)
    have hn : 0 < ps.length := by rw [← List.length_range (n := ps.length), ← hperm.length_eq]; omega
    have hcnt : ps.count (-1) = 1 := by
      unfold treeI at htr
      simp only [Bool.and_eq_true, Bool.or_eq_true, decide_eq_true_iff] at htr
      rcases htr.2 with h | h
      · omega
      · exact h
    obtain ⟨r, hr, hu⟩ := one_count hcnt
    have aux : ∀ b (hb : b < ps.length), fOf ps b = none → ps[b] = -1 := fun b hb hfk => by
      unfold fOf at hfk
      rw [List.getD_eq_getElem?_getD, List.getElem?_eq_getElem hb] at hfk
      by_cases hm : ps[b] = -1
      · exact hm
      · simp [hm] at hfk
    have isr : ∀ k (h : k < (downN ps).length), fOf ps (downN ps)[k] = none → (downN ps)[k] = r := fun k h hfk => by
      obtain ⟨_, _, hlt⟩ := downN_at h
      exact (hu _ hlt).1 (aux _ hlt hfk)
    have e := (isr i h hf).trans (isr 0 (by omega) h00).symm
    have hnd : (downN ps).Nodup := hperm.nodup_iff.2 List.nodup_range
    have := (List.getElem_inj hnd).1 e
    omega
theorem fOf_par {ps : List Int} (htr : treeI ps = true) {b : Nat} (hb : b < ps.length) : (0 ≤ parOf ps (b : Int) ∧ ∃ p : Nat, fOf ps b = some p ∧ parOf ps (b : Int) = p) ∨ (¬ 0 ≤ parOf ps (b : Int) ∧ fOf ps b = none) := by
  rw [parOf_nat hb]
  rcases tree_par htr hb with h | ⟨h1, h2⟩
  · refine .inr ⟨by omega, ?_⟩
    unfold fOf
    rw [List.getD_eq_getElem?_getD, List.getElem?_eq_getElem hb]
    simp [h]
  · refine .inl ⟨h1, ps[b].toNat, ?_, by omega⟩
    unfold fOf
    rw [List.getD_eq_getElem?_getD, List.getElem?_eq_getElem hb]
    have : ¬ ps[b] = -1 := by omega
    simp [this]
theorem below_dn {ps : List Int} (htr : treeI ps = true) : ∀ (Z : List Int), (∀ x, x ∈ Z → ∃ m : Nat, x = m ∧ m < ps.length) → belowP ps Z = dnP (fOf ps) (Z.map Int.toNat) ∧ (belowP ps Z).map swpP = (Z.map Int.toNat).flatMap (upH (fOf ps))
  | [], _ => ⟨rfl, rfl⟩
  | x :: Z, h => by
    obtain ⟨i1, i2⟩ := below_dn htr Z fun y hy => h y (List.mem_cons_of_mem _ hy)
    obtain ⟨m, rfl, hm⟩ := h x List.mem_cons_self
    have e : belowP ps ((m : Int) :: Z) = (if 0 ≤ parOf ps (m : Int) then [((m : Int), parOf ps (m : Int))] else []) ++ belowP ps Z := by
      unfold belowP
      rw [List.filter_cons]
      by_cases hp : 0 ≤ parOf ps (m : Int) <;> simp [hp]
    rw [e, List.map_append, i2, i1]
    unfold dnP
    rw [List.map_cons, List.flatMap_cons, List.flatMap_cons, Int.toNat_natCast]
    rcases fOf_par htr hm with ⟨h1, p, h2, h3⟩ | ⟨h1, h2⟩
    · rw [if_pos h1, h3]
      unfold dnH upH
      rw [h2]
      exact ⟨rfl, rfl⟩
    · rw [if_neg h1]
      unfold dnH upH
      rw [h2]
      exact ⟨rfl, rfl⟩
theorem heldI_tree {ps : List Int} (htr : treeI ps = true) : heldI ps = ps := if_pos htr
theorem prog_tree {ps : List Int} (htr : treeI ps = true) : progL ps = upP (fOf ps) (downN ps) ++ dnP (fOf ps) (downN ps) := by
  have hin : ∀ x, x ∈ downI ps → ∃ m : Nat, x = m ∧ m < ps.length := fun x hx => by
    have := down_in (ps := ps) (x := x) (by rw [heldI_tree htr]; exact hx)
    exact this.2
  unfold progL
  rw [← up_rev]
  unfold belowL
  rw [heldI_tree htr]
  congr 1
  · rw [(below_dn htr (downI ps).reverse fun x hx => hin x (List.mem_reverse.1 hx)).2]
    unfold upP downN
    rw [List.map_reverse]
  · exact (below_dn htr (downI ps) hin).1
theorem treeOrd_N {ps : List Int} (htr : treeI ps = true) (l : List Rel) : treeOrd l ps = (downN ps).map fun i => l.getD i zR := by
  unfold treeOrd downN
  rw [heldI_tree htr, List.map_map]
  rfl
theorem hang_of {h : List (List Int)} {l : List Rel} {ps : List Int} (hc : ∀ i, (l.getD i zR).cols = h.getD i []) (hw : ∀ v a b, vx h a v → vx h b v → Wk (nbr (fOf ps)) (fun k => vx h k v) a b) (n : Nat) : Hangs n (fOf ps) l := by
  intro v a b _ _ ha hb
  have e : (fun k => v ∈ (l.getD k zR).cols) = fun k => vx h k v := funext fun k => by show _ = (v ∈ h.getD k []); rw [hc]
  rw [e]
  rw [hc] at ha hb
  exact hw v a b ha hb
/-- a tree's program, played: along each edge all rows match -/
theorem tree_played {l : List Rel} {ps : List Int} (hr : AllRight l) (htr : treeI ps = true) (hl : l.length = ps.length) {b p : Nat} (hb : b < ps.length) (hf : fOf ps b = some p) : Match2 (playJ l (progL ps)) p b ∧ Match2 (playJ l (progL ps)) b p := by
  rw [prog_tree htr]
  exact play_reduced (tree_ord htr) hr hl hb hf
end Go.Proofs.YtjplcdeaedflpaaGreatDoor.PL
