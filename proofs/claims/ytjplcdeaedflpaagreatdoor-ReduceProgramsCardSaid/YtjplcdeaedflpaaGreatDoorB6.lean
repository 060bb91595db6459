/- Contracts of functions of the program, and plain laws (part 6): Programs of semijoins, played; Programs of semijoins: the statement. -/
import Derived.Test.YtjplcdeaedflpaaGreatDoorB5
namespace Go.Proofs.YtjplcdeaedflpaaGreatDoor.PL
open Go.Proofs Go.RowKit
set_option linter.unusedVariables false
set_option linter.unusedSimpArgs false
instance : Plain Rel.av := ⟨fun x => by simp [AV.pl, AV.pls]⟩
instance : Selfs Rel.av := ⟨fun a x h => by simp at h; rcases h with rfl | rfl <;> simp⟩
def OJ (r : Rel) (i : Nat) (H : List HO) : Prop := ∃ c1 x L, c1.length = 2 ∧ H = .box r.cs :: .box c1 :: .box [.sl .no (ints' r.cols), x] :: L ∧ GrowX 3 1 L x (rows' (r.rows.take i))
theorem T_rdOwn (r : Rel) (hr : OkR r) : T Tryz.prog 69 [r.av] r.av := by
  have hnc := hr.nc
  have hnr := hr.nr
  have k1 := T_cloneI4 r.cols (by omega)
  refine T.introF (TS.body mix Tryz.func69 (by kernel_rfl) rfl (by kernel_rfl) (by simp) ?_)
  simp
  refine TS.callW k1 (Dws.self (by simp)) ?_
  simp
  refine vc_loop (fun i : Nat => r.rows.length - i) (fun i e H => e 2 = .ptr 1 0 ∧ e 3 = .ptr 2 0 ∧ e 11 = .sl .no (rows' r.rows) ∧ e 12 = .int .i64 r.rows.length ∧ e 13 = .int .i64 i ∧ i ≤ r.rows.length ∧ OJ r i H) 0 ?_ ?_
  · simp
    exact ⟨_, _, _, rfl, rfl, .inl ⟨by simp, .inr rfl⟩⟩
  rintro i e H ⟨e2, e3, e11, e12, e13, hi, c1, x, L, hc1, rfl, hg⟩
  by_cases hlt : i < r.rows.length
  · have ew := wrap_next hlt (by omega)
    have hrow := hr.row _ (List.getElem_mem hlt)
    have k2 := T_cloneV4 r.rows[i] (by omega)
    have hnx : r.rows.take (i + 1) = r.rows.take i ++ [r.rows[i]] := take_next hlt
    have hml : (r.rows.take i).length = i := by simp; omega
    simp [e2, e3, e11, e12, e13, hlt]
    refine TDK.callW k2 (Dws.self (by simp)) ?_
    rcases hg with ⟨ge, zx⟩ | ⟨t, rfl, ht⟩
    · rw [avs_eq_nil] at ge
      have ex := GrowX.ex0 zx
      simp [e2, e3, e11, e12, e13, hlt, ex]
      refine ⟨i + 1, by omega, ew, by omega, c1, _, _, hc1, rfl, ?_⟩
      rw [hnx]
      exact GrowX.first (f := fun r => AV.sl .no (vals' r)) ge rfl
    · have hw := ht
      simp only [avs_length] at hw
      simp [e2, e3, e11, e12, e13, hlt, hw]
      refine ⟨by omega, i + 1, by omega, ew, by omega, c1, _, _, hc1, rfl, ?_⟩
      rw [hnx]
      exact GrowX.more (f := fun r => AV.sl .no (vals' r)) ht (by omega)
  · have : i = r.rows.length := by omega
    subst this
    rw [List.take_length] at hg
    obtain ⟨own, rfl⟩ := hg.own
    match c1, hc1 with
    | [u0, u1], _ =>
    simp [e2, e3, e11, e12, e13]
    exact .agg (.cons (Frz.slN (f := AV.int .i64)) (.cons (Frz.slN (f := fun r => AV.sl .no (vals' r))) .nil))
/-- a row of relations, in memory -/
def RelRow (H : List HO) (c : AV) (l : List Rel) : Prop := (l = [] ∧ (c = .sl .nil [] ∨ c = .sl .exact [])) ∨ 0 < l.length ∧ ∃ t, c = .mv t l.length 2 0 l.length ∧ H[t]? = some (.row l.length 2 ((rels' l).flatMap AV.cells))
theorem S_there (H : List HO) (k : Nat) (c : AV) (l : List Rel) (i : Int) (hk : H[k]? = some (.box [c])) (hc : RelRow H c l) : TS Tryz.prog 70 [.int .i64 i, .ptr k 0] H (pt (.bool (decide (0 ≤ i ∧ i < l.length))) H) := by
  refine TS.body mix Tryz.func70 (by kernel_rfl) rfl (by kernel_rfl) (by simp) ?_
  rcases hc with ⟨rfl, rfl | rfl⟩ | ⟨h0, t, rfl, ht⟩
  · simp [hk]
  · simp [hk]
  · simp [hk]
/-- what is asked of some in the proofs of programs -/
structure OkP (l : List Rel) : Prop where
  ok : ∀ r, r ∈ l → OkR r
  nc : ∀ r, r ∈ l → r.cols.length ≤ 20
  len : l.length ≤ 40
theorem OkL.okP {l : List Rel} (h : OkL l) : OkP l := ⟨h.ok, h.nc, h.len⟩
theorem OkP.getD {l : List Rel} (h : OkP l) (k : Nat) : OkR (l.getD k zR) ∧ (l.getD k zR).cols.length ≤ 20 := by
  rcases Nat.lt_or_ge k l.length with hk | hk
  · rw [getD_ltR hk]; exact ⟨h.ok _ (List.getElem_mem hk), h.nc _ (List.getElem_mem hk)⟩
  · rw [List.getD_eq_getElem?_getD, List.getElem?_eq_none hk]; exact ⟨.zero, by simp [zR]⟩
theorem OkP.step {l : List Rel} (h : OkP l) (p : Int × Int) : OkP (stepJ l p) := by
  unfold stepJ
  split
  · have h1 := h.getD p.1.toNat
    refine ⟨fun r hr => ?_, fun r hr => ?_, by simpa using h.len⟩
    · rcases List.mem_or_eq_of_mem_set hr with hr | rfl
      · exact h.ok r hr
      · exact someR_ok (heldR_ok h1.1)
    · rcases List.mem_or_eq_of_mem_set hr with hr | rfl
      · exact h.nc r hr
      · exact Nat.le_trans (held_cols _) h1.2
  · exact h
theorem OkP.play {prog : List (Int × Int)} : ∀ {l : List Rel}, OkP l → OkP (playJ l prog) := by
  induction prog with
  | nil => intro l h; exact h
  | cons p prog ih => intro l h; exact ih (h.step p)
theorem play_next (l : List Rel) {prog : List (Int × Int)} {i : Nat} (h : i < prog.length) : playJ l (prog.take (i + 1)) = stepJ (playJ l (prog.take i)) prog[i] := by rw [take_next h, playJ_snoc]
def PJ1 (l : List Rel) (i : Nat) (H : List HO) : Prop := ∃ c L, H = .box [c] :: L ∧ RelRow H c (l.take i)
def PJ2 (R : List Rel) (H : List HO) : Prop := ∃ c L, H = .box [c] :: L ∧ RelRow H c R
theorem T_rdPlay (l : List Rel) (prog : List (Int × Int)) (h : OkP l) (hp : prog.length ≤ 1000000) : T Tryz.prog 31 [.sl .no (rels' l), .sl .no (halves' prog)] (.sl .no (rels' (playJ l prog))) := by
  have hlen := h.len
  refine T.introF (TS.bodyM [21] mix Tryz.func31 (by kernel_rfl) rfl (by kernel_rfl) (by simp) ?_)
  simp
  refine vc_loop (fun i : Nat => l.length - i) (fun i e H => e 1 = .sl .no (halves' prog) ∧ e 5 = .ptr 0 0 ∧ e 11 = .sl .no (rels' l) ∧ e 12 = .int .i64 l.length ∧ e 13 = .int .i64 i ∧ i ≤ l.length ∧ PJ1 l i H) 0 ?_ ?_
  · simp
    exact ⟨_, _, rfl, .inl ⟨by simp, .inr rfl⟩⟩
  · rintro i e H ⟨e1, e5, e11, e12, e13, hi, c, L, rfl, hg⟩
    by_cases hlt : i < l.length
    · have ew := wrap_next hlt (by omega)
      have k1 := T_rdOwn l[i] (h.ok _ (List.getElem_mem hlt))
      have hnx : l.take (i + 1) = l.take i ++ [l[i]] := take_next hlt
      have hml : (l.take i).length = i := by simp; omega
      simp [e1, e5, e11, e12, e13, hlt]
      refine TDK.callW k1 (Dws.self (by simp)) ?_
      rcases hg with ⟨ge, zx⟩ | ⟨_, t, rfl, ht⟩
      · have ex := GrowX.ex0 zx
        simp [e1, e5, e11, e12, e13, hlt, ex]
        refine ⟨i + 1, by omega, ew, by omega, _, _, rfl, .inr ⟨by rw [List.length_take]; omega, L.length + 1 + 1, ?_, ?_⟩⟩
        · rw [hnx, ge]; rfl
        · rw [hnx, ge]; simp
      · cases t with
        | zero => simp at ht
        | succ s =>
        simp only [List.getElem?_cons_succ] at ht
        have hsl := (List.getElem?_eq_some_iff.1 ht).1
        rw [hml] at ht
        have ht2 : ∀ Y : List HO, (L ++ Y)[s]? = some (.row i 2 ((rels' (l.take i)).flatMap AV.cells)) := fun Y => by rw [List.getElem?_append_left hsl]; exact ht
        have hl1 : (l.take (i + 1)).length = i + 1 := by rw [hnx, List.length_append, hml]; rfl
        simp [e1, e5, e11, e12, e13, hlt, hml, ht2]
        refine ⟨by omega, i + 1, by omega, ew, by omega, _, _, rfl, .inr ⟨by omega, s + 1, ?_, ?_⟩⟩
        · rw [hl1]
        · rw [hl1, hnx, List.getElem?_cons_succ, List.getElem?_set_self (by simp; omega)]
          rw [show rels' (l.take i ++ [l[i]]) = rels' (l.take i) ++ [l[i].av] from List.map_append .., List.flatMap_append]
          rfl
    · have : i = l.length := by omega
      subst this
      rw [List.take_length] at hg
      simp [e1, e5, e11, e12, e13, hlt]
      refine vc_loop (fun i : Nat => prog.length - i) (fun i e H => e 5 = .ptr 0 0 ∧ e 8 = .fn (.func 70) [] [.ptr 0 0] ∧ e 24 = .sl .no (halves' prog) ∧ e 25 = .int .i64 prog.length ∧ e 26 = .int .i64 i ∧ i ≤ prog.length ∧ PJ2 (playJ l (prog.take i)) H) 0 ?_ ?_
      · simp [e5]
        exact ⟨c, L, rfl, hg⟩
      clear hg c L e1 e5 e11 e12 e13 hi hlt
      rintro i e H ⟨e5, e8, e24, e25, e26, hi, c, L, rfl, hg⟩
      have hok := h.play (prog := prog.take i)
      have hRl : (playJ l (prog.take i)).length = l.length := playJ_len _ _
      by_cases hlt : i < prog.length
      · have ew := wrap_next hlt (by omega)
        have hnx := play_next l hlt
        obtain ⟨p, hpp⟩ : ∃ p, p = prog[i] := ⟨_, rfl⟩
        rw [← hpp] at hnx
        obtain ⟨R, hR⟩ : ∃ R, R = playJ l (prog.take i) := ⟨_, rfl⟩
        rw [← hR] at hnx hg hok hRl
        have hx : RelRow (.box [c] :: (L ++ [.box [.int .i64 p.1, .int .i64 p.2]])) c R := by
          rcases hg with h | ⟨h0, t, h1, h2⟩
          · exact .inl h
          · refine .inr ⟨h0, t, h1, ?_⟩
            have := (List.getElem?_eq_some_iff.1 h2).1
            rw [← List.cons_append, List.getElem?_append_left this]
            exact h2
        have st := fun j => S_there (.box [c] :: (L ++ [.box [.int .i64 p.1, .int .i64 p.2]])) 0 c R j rfl hx
        obtain ⟨p1, p2⟩ := p
        dsimp only at st hx
        simp [e5, e8, e24, e25, e26, hlt, ← hpp]
        by_cases hc : p1 ≠ p2 ∧ 0 ≤ p1 ∧ p1 < R.length ∧ 0 ≤ p2 ∧ p2 < R.length
        · obtain ⟨a1, a2, a3, a4, a5⟩ := hc
          have hst : stepJ R (p1, p2) = R.set p1.toNat (semiR (heldR (R.getD p1.toNat zR)) (heldR (R.getD p2.toNat zR))) := if_pos ⟨a1, a2, a3, a4, a5⟩
          rw [hst] at hnx
          obtain ⟨T, rfl⟩ := Int.eq_ofNat_of_zero_le a2
          obtain ⟨B, rfl⟩ := Int.eq_ofNat_of_zero_le a4
          rw [Int.toNat_natCast, Int.toNat_natCast] at hnx
          have hTl : T < R.length := by omega
          have hBl : B < R.length := by omega
          rw [getD_ltR hTl, getD_ltR hBl] at hnx
          have s1 := st T
          have s2 := st B
          rw [decide_eq_true ⟨a2, a3⟩] at s1
          rw [decide_eq_true ⟨a4, a5⟩] at s2
          have a1' : ¬ T = B := fun h => a1 (by rw [h])
          have hk := T_semijoin R[T] R[B] (hok.ok _ (List.getElem_mem hTl)) (hok.ok _ (List.getElem_mem hBl)) (by have := hok.nc _ (List.getElem_mem hTl); omega)
          obtain ⟨z, hz⟩ : ∃ z, z = semiR (heldR R[T]) (heldR R[B]) := ⟨_, rfl⟩
          have hz' : someR (heldR R[T]) (heldR R[B]) true = z := hz.symm
          rw [hz'] at hk
          rw [← hz] at hnx
          rw [show (!decide ((T : Int) = (B : Int))) = true by rw [Bool.not_eq_true', decide_eq_false_iff_not]; exact a1]
          refine GTK.yes (s1.mono ?_)
          rintro r' H' ⟨rfl, rfl⟩
          simp [a1', e5, e8, e24, e25, e26]
          refine GTK.yes (s2.mono ?_)
          rintro r' H' ⟨rfl, rfl⟩
          rcases hx with ⟨h0, _⟩ | ⟨h0, t, rfl, ht⟩
          · rw [h0] at hTl; cases hTl
          have f1 : (((rels' R).flatMap AV.cells).drop (T * 2)).take 2 = R[T].cs := flatA_at (f := Rel.av) (sz := 2) R hTl
          have f2 : (((rels' R).flatMap AV.cells).drop (B * 2)).take 2 = R[B].cs := flatA_at (f := Rel.av) (sz := 2) R hBl
          have hml := flatA_len (f := Rel.av) (sz := 2) R
          rw [List.length_flatMap] at hml
          have q1 : ((rels' R).flatMap AV.cells).take (T * 2) ++ (z.av.cells ++ ((rels' R).flatMap AV.cells).drop (T * 2 + 2)) = (rels' (R.set T z)).flatMap AV.cells := flatA_put (f := Rel.av) (sz := 2) R hTl (k := 0) (new := z.av.cells) (a := z) (by simp) (by simp)
          cases t with
          | zero => simp at ht
          | succ s =>
          simp only [List.getElem?_cons_succ] at ht
          simp [a1', e5, e8, e24, e25, e26, ht, hTl, hBl]
          refine ⟨by rw [hml]; omega, by rw [hml]; omega, ?_⟩
          rw [f1, f2]
          refine TDK.callW hk (Dws.self (by simp)) ?_
          simp [a1', e5, e8, e24, e25, e26, ht, hTl, hBl]
          have hll : (R.set T z).length = R.length := List.length_set
          refine ⟨by rw [hml]; omega, i + 1, by omega, ew, by omega, _, _, rfl, .inr ⟨by rw [hnx, hll]; exact h0, s + 1, by rw [hnx, hll], ?_⟩⟩
          rw [hnx, hll, List.getElem?_cons_succ, List.getElem?_set_self (List.getElem?_eq_some_iff.1 ht).1, ← q1]
          rfl
        · have hst : stepJ R (p1, p2) = R := if_neg hc
          rw [hst, hR] at hnx
          refine GTK.inv (r := .bool (decide (0 ≤ p1 ∧ p1 < R.length))) (fun H' => H' = HO.box [c] :: (L ++ [HO.box [.int .i64 p1, .int .i64 p2]])) (fun _ => st p1) rfl ?_
          rintro H' rfl
          simp [e5, e8, e24, e25, e26]
          refine ⟨fun b1 b2 b3 => ⟨b1, b2, b3⟩, ?_⟩
          refine GTK.inv (r := .bool (decide (0 ≤ p2 ∧ p2 < R.length))) (fun H' => H' = HO.box [c] :: (L ++ [HO.box [.int .i64 p1, .int .i64 p2]])) (fun _ => st p2) rfl ?_
          rintro H' rfl
          simp [e5, e8, e24, e25, e26]
          refine condK_of (fun hc2 => ?_) (fun hc2 => ?_)
          · simp at hc2
            exact absurd ⟨hc2.1.1, hc2.1.2.1, hc2.1.2.2, hc2.2.1, hc2.2.2⟩ hc
          · simp [e5, e8, e24, e25, e26]
            exact ⟨i + 1, by omega, ew, by omega, c, _, rfl, by rw [hnx, ← hR]; exact hx⟩
      · have : i = prog.length := by omega
        subst this
        rw [List.take_length] at hg
        rcases hg with ⟨h0, rfl | rfl⟩ | ⟨h0, t, rfl, ht⟩
        · simp [e5, e8, e24, e25, e26, hlt]
          rw [h0]
          exact Frz.slN (f := Rel.av) (l := [])
        · simp [e5, e8, e24, e25, e26, hlt]
          rw [h0]
          exact Frz.slN (f := Rel.av) (l := [])
        · simp [e5, e8, e24, e25, e26, hlt]
          exact Frz.mvA (f := Rel.av) (sz := 2) ht (by simp)
theorem T_rPlay25 (l : List Rel) (prog : List (Int × Int)) (h : OkP l) (hp : prog.length ≤ 1000000) : T Tryz.prog 32 [.sl .no (rels' l), .sl .no (halves' prog)] (.sl .no (rels' (playJ l prog))) := by
  have hlen := h.len
  refine T.introF (TS.bodyM [11] mix Tryz.func32 (by kernel_rfl) rfl (by kernel_rfl) (by simp) ?_)
  simp
  refine ⟨⟨by omega, by omega⟩, ?_⟩
  refine vc_loop (fun i : Nat => prog.length - i) (fun i e H => e 1 = .sl .no (halves' prog) ∧ e 6 = .int .i64 i ∧ i ≤ prog.length ∧ RelRow H (e 5) (playJ l (prog.take i))) 0 ?_ ?_
  · simp
    by_cases hl : l = []
    · rw [if_pos hl, if_pos hl]; exact .inl ⟨hl, .inr rfl⟩
    · rw [if_neg hl, if_neg hl]; exact .inr ⟨List.length_pos_iff.2 hl, 0, rfl, rfl⟩
  rintro i e H ⟨e1, e6, hi, hg⟩
  have hok := h.play (prog := prog.take i)
  have hRl : (playJ l (prog.take i)).length = l.length := playJ_len _ _
  by_cases hlt : i < prog.length
  · have ew := wrap_next hlt (by omega)
    have hnx := play_next l hlt
    obtain ⟨p, hpp⟩ : ∃ p, p = prog[i] := ⟨_, rfl⟩
    rw [← hpp] at hnx
    obtain ⟨R, hR⟩ : ∃ R, R = playJ l (prog.take i) := ⟨_, rfl⟩
    rw [← hR] at hnx hg hok hRl
    obtain ⟨p1, p2⟩ := p
    by_cases hc : p1 ≠ p2 ∧ 0 ≤ p1 ∧ p1 < R.length ∧ 0 ≤ p2 ∧ p2 < R.length
    · obtain ⟨a1, a2, a3, a4, a5⟩ := hc
      have hst : stepJ R (p1, p2) = R.set p1.toNat (semiR (heldR (R.getD p1.toNat zR)) (heldR (R.getD p2.toNat zR))) := if_pos ⟨a1, a2, a3, a4, a5⟩
      rw [hst] at hnx
      obtain ⟨T, rfl⟩ := Int.eq_ofNat_of_zero_le a2
      obtain ⟨B, rfl⟩ := Int.eq_ofNat_of_zero_le a4
      rw [Int.toNat_natCast, Int.toNat_natCast] at hnx
      have hTl : T < R.length := by omega
      have hBl : B < R.length := by omega
      rw [getD_ltR hTl, getD_ltR hBl] at hnx
      have a1' : ¬ T = B := fun h => a1 (by rw [h])
      have hk := T_rsome24 R[T] R[B] true (hok.ok _ (List.getElem_mem hTl)) (hok.ok _ (List.getElem_mem hBl))
      obtain ⟨z, hz⟩ : ∃ z, z = semiR (heldR R[T]) (heldR R[B]) := ⟨_, rfl⟩
      have hz' : someR (heldR R[T]) (heldR R[B]) true = z := hz.symm
      rw [hz'] at hk
      rw [← hz] at hnx
      rcases hg with ⟨h0, _⟩ | ⟨h0, t, gx, ht⟩
      · rw [h0] at hTl; cases hTl
      have f1 : (((rels' R).flatMap AV.cells).drop (T * 2)).take 2 = R[T].cs := flatA_at (f := Rel.av) (sz := 2) R hTl
      have f2 : (((rels' R).flatMap AV.cells).drop (B * 2)).take 2 = R[B].cs := flatA_at (f := Rel.av) (sz := 2) R hBl
      have hml := flatA_len (f := Rel.av) (sz := 2) R
      rw [List.length_flatMap] at hml
      have q1 : ((rels' R).flatMap AV.cells).take (T * 2) ++ (z.av.cells ++ ((rels' R).flatMap AV.cells).drop (T * 2 + 2)) = (rels' (R.set T z)).flatMap AV.cells := flatA_put (f := Rel.av) (sz := 2) R hTl (k := 0) (new := z.av.cells) (a := z) (by simp) (by simp)
      simp [e1, e6, gx, hlt, ← hpp, a1', hTl, hBl]
      refine condK_of (fun hc2 => ?_) (fun hc2 => ?_)
      · simp [e1, e6, gx, hlt, hTl, hBl, ht]
        refine ⟨by rw [hml]; omega, by rw [hml]; omega, ?_⟩
        rw [f1, f2]
        refine TDK.callW hk (Dws.self (by simp)) ?_
        simp [e1, e6, gx, hlt, hTl, hBl, ht]
        have hll : (R.set T z).length = R.length := List.length_set
        refine ⟨by rw [hml]; omega, i + 1, by omega, ew, by omega, .inr ⟨by rw [hnx, hll]; exact h0, t, by rw [hnx, hll], ?_⟩⟩
        rw [hnx, hll, List.getElem?_set_self (List.getElem?_eq_some_iff.1 ht).1, ← q1]
        rfl
      · simp at hc2
        exact absurd hc2 a1
    · have hst : stepJ R (p1, p2) = R := if_neg hc
      rw [hst] at hnx
      have hln : ∃ x, e 5 = x ∧ (x = .sl .nil [] ∧ R.length = 0 ∨ x = .sl .exact [] ∧ R.length = 0 ∨ ∃ t, x = .mv t R.length 2 0 R.length) := by
        rcases hg with ⟨h0, h | h⟩ | ⟨h0, t, gx, ht⟩
        · exact ⟨_, h, .inl ⟨rfl, by rw [h0]; rfl⟩⟩
        · exact ⟨_, h, .inr (.inl ⟨rfl, by rw [h0]; rfl⟩)⟩
        · exact ⟨_, gx, .inr (.inr ⟨t, rfl⟩)⟩
      obtain ⟨x, gx, hx⟩ := hln
      have fin : RelRow H x (playJ l (prog.take (i + 1))) := by rw [hnx, ← gx]; exact hg
      rcases hx with ⟨rfl, h0⟩ | ⟨rfl, h0⟩ | ⟨t, rfl⟩
      · simp [e1, e6, gx, hlt, ← hpp]
        refine ⟨fun b1 b2 => ⟨b1, b2⟩, fun b1 b2 b3 => ⟨⟨b1, b2⟩, b3⟩, fun b1 b2 b3 b4 => ⟨⟨⟨b1, b2⟩, b3⟩, b4⟩, condK_of (fun hc2 => ?_) (fun hc2 => ?_)⟩
        · simp at hc2
          exact absurd ⟨hc2.1.1.1.1, by omega, by omega, by omega, by omega⟩ hc
        · simp [e1, e6, gx]
          exact ⟨i + 1, by omega, ew, by omega, fin⟩
      · simp [e1, e6, gx, hlt, ← hpp]
        refine ⟨fun b1 b2 => ⟨b1, b2⟩, fun b1 b2 b3 => ⟨⟨b1, b2⟩, b3⟩, fun b1 b2 b3 b4 => ⟨⟨⟨b1, b2⟩, b3⟩, b4⟩, condK_of (fun hc2 => ?_) (fun hc2 => ?_)⟩
        · simp at hc2
          exact absurd ⟨hc2.1.1.1.1, by omega, by omega, by omega, by omega⟩ hc
        · simp [e1, e6, gx]
          exact ⟨i + 1, by omega, ew, by omega, fin⟩
      · simp [e1, e6, gx, hlt, ← hpp]
        refine ⟨fun b1 b2 => ⟨b1, b2⟩, fun b1 b2 b3 => ⟨⟨b1, b2⟩, b3⟩, fun b1 b2 b3 b4 => ⟨⟨⟨b1, b2⟩, b3⟩, b4⟩, condK_of (fun hc2 => ?_) (fun hc2 => ?_)⟩
        · simp at hc2
          exact absurd ⟨hc2.1.1.1.1, by omega, by omega, by omega, by omega⟩ hc
        · simp [e1, e6, gx]
          exact ⟨i + 1, by omega, ew, by omega, fin⟩
  · have : i = prog.length := by omega
    subst this
    rw [List.take_length] at hg
    rcases hg with ⟨h0, gx | gx⟩ | ⟨h0, t, gx, ht⟩
    · simp [e1, e6, gx]
      rw [h0]
      exact Frz.slN (f := Rel.av) (l := [])
    · simp [e1, e6, gx]
      rw [h0]
      exact Frz.slN (f := Rel.av) (l := [])
    · simp [e1, e6, gx]
      exact Frz.mvA (f := Rel.av) (sz := 2) ht (by simp)
end Go.Proofs.YtjplcdeaedflpaaGreatDoor.PL
namespace Go.Proofs.YtjplcdeaedflpaaGreatDoor.PL
open Go.Proofs Go.RowKit
set_option linter.unusedVariables false
set_option linter.unusedSimpArgs false
theorem T_rSame25 (l : List Rel) (h : ∀ r, r ∈ l → OkR r) (hl : l.length ≤ 1000) : T Tryz.prog 30 [.sl .no (rels' l), .sl .no (rels' l)] (.bool true) := by
  refine T.intro (TS.body mix Tryz.func30 (by kernel_rfl) rfl (by kernel_rfl) (by simp) ?_)
  simp
  refine vc_loop (fun i : Nat => l.length - i) (fun i e H => e 0 = .sl .no (rels' l) ∧ e 1 = .sl .no (rels' l) ∧ e 5 = .int .i64 i ∧ i ≤ l.length) 0 ?_ ?_
  · simp
  rintro i e H ⟨e0, e1, e5, hi⟩
  by_cases hlt : i < l.length
  · have ew := wrap_next hlt (by omega)
    have hr := h _ (List.getElem_mem hlt)
    have k := T_rsame24 l[i] (by have := hr.nc; omega) (by have := hr.nr; omega) fun x hx => by have := (hr.row x hx).1; omega
    simp [e0, e1, e5, hlt]
    refine TDK.callW k (Dws.self (by simp)) ?_
    simp [e0, e1, e5, hlt]
    exact ⟨i + 1, by omega, ew, by omega⟩
  · have : i = l.length := by omega
    subst this
    simp [e0, e1, e5]
theorem T_ReducePrograms (ps : List Int) (l : List Rel) (prog : List (Int × Int)) (hps : ps.length < 4611686018427387904) (hl : l.length < 4611686018427387904) (hi : ∀ r, r ∈ l → RelIn r) (hp : prog.length < 4611686018427387904) :
    T Tryz.prog 5 [.sl .no (ints' ps), .sl .no (rels' l), .sl .no (halves' prog)] (.bool true) := by
  have kw := T_rwide24 l hl hi
  refine T.intro (TS.body mix Tryz.func5 (by kernel_rfl) rfl (by kernel_rfl) (by simp) ?_)
  have live : ∀ {H : List HO} {K : AV → List HO → Prop}, K (.bool true) H → TS Tryz.prog 24 [] H K := fun h => TS.callW T_live25 .nil h
  by_cases h1 : 30 < ps.length
  · have h1' : (30 : Int) < ps.length := by omega
    simp [h1, h1']
    refine GTK.callW (fun h => nomatch h) (ys := []) (r := .bool true) ?_
    simp
    refine live ?_
    simp
  have h1' : ¬ (30 : Int) < ps.length := by omega
  by_cases h2 : 30 < prog.length
  · have h2' : (30 : Int) < prog.length := by omega
    simp [h1, h1', h2, h2']
    refine GTK.callW (fun h => nomatch h) (ys := []) (r := .bool true) ?_
    simp
    refine live ?_
    simp
  have h2' : ¬ (30 : Int) < prog.length := by omega
  simp [h1, h1', h2, h2']
  refine GTK.callW (fun _ => ⟨kw, Dws.self (by simp)⟩) ?_
  cases hw : wideL l with
  | true =>
    simp
    refine live ?_
    simp
  | false =>
  obtain ⟨hok, hpr, hn⟩ := wideL_no hw hi
  have okp := hok.okP
  have k2 := T_rprogDn ps (by omega)
  have k3 := T_rdUp ps (by omega)
  have k4 := T_sameHalves (upL ps).reverse
  have k5 := T_rdDown ps (by omega)
  have k6 := T_sameHalves (belowL ps)
  have k7 := T_rdProgram ps (by omega)
  have k8 := T_sameHalves (progL ps)
  have k9 := T_rdPlay l prog okp (by omega)
  have k10 := T_rPlay25 l prog okp (by omega)
  have k11 := T_rSame25 (playJ l prog) okp.play.ok (by rw [playJ_len]; omega)
  have hbl := belowL_len ps
  have hul : (upL ps).length = (belowL ps).length := by unfold upL; rw [List.length_map]
  simp
  refine (S_rprogUp ps (by omega)).mono ?_
  rintro r H' hg
  obtain ⟨own, rfl⟩ := hg.own
  simp
  refine TS.callW k2 (Dws.self (by simp)) ?_
  simp
  refine TS.callW k3 (Dws.self (by simp)) ?_
  simp
  refine TS.callW (k4 (by simp; omega)) (.cons (.self (by simp)) (.cons (.sl (Dws.self (by simp))) .nil)) ?_
  simp
  refine GTK.callW (fun _ => ⟨k5, Dws.self (by simp)⟩) ?_
  simp
  refine GTK.callW (fun _ => ⟨k6 (by omega), Dws.self (by simp)⟩) ?_
  simp
  refine GTK.callW (fun _ => ⟨k7, Dws.self (by simp)⟩) ?_
  simp
  have hplen : (progL ps).length ≤ 1000 := by unfold progL; simp; omega
  rcases hg with ⟨h0, hx⟩ | ⟨t, hx, ht⟩
  · rw [avs_eq_nil] at h0
    have hu0 : upL ps = [] := by simpa using h0
    have hb0 : belowL ps = [] := List.eq_nil_of_length_eq_zero (by rw [← hul, hu0]; rfl)
    have hp0 : progL ps = [] := by unfold progL; rw [hu0, hb0]; rfl
    have k8 := k8 (by omega)
    rw [hu0] at hx
    rw [hp0] at k8
    have ho : own = .nil ∨ own = .exact := by rcases hx with h | h <;> cases h <;> simp
    rw [hu0, hb0, hp0]
    rcases ho with rfl | rfl
    all_goals
      simp
      refine GTK.callW (fun _ => ⟨k8, .cons (.sl .nil) (.cons (.sl .nil) .nil)⟩) ?_
      simp
      refine TS.callW k9 (Dws.self (by simp)) ?_
      simp
      refine TS.callW k10 (Dws.self (by simp)) ?_
      simp
      refine TS.callW k11 (Dws.self (by simp)) ?_
      simp
      refine GTK.callW (fun _ => ⟨T_live25, .nil⟩) ?_
      simp
  · cases hx
    rw [Nat.add_zero]
    have k8 := k8 (by omega)
    have hw2 : H'[t]? = some (.spare (upL ps).length 2) := by simpa using ht
    have hp2 : (halves' (progL ps)) = halves' (upL ps).reverse ++ halves' (belowL ps) := by unfold progL; exact List.map_append ..
    simp [hw2]
    refine ⟨⟨by omega, by omega⟩, ?_⟩
    refine GTK.callW (fun _ => ⟨k8, .cons (.self (by simp)) (.cons ?_ .nil)⟩) ?_
    · show Dw _ (.sl .no (avs halfA ((upL ps).reverse ++ belowL ps)))
      exact .sl (Dws.self (by simp))
    simp
    refine TS.callW k9 (Dws.self (by simp)) ?_
    simp
    refine TS.callW k10 (Dws.self (by simp)) ?_
    simp
    refine TS.callW k11 (Dws.self (by simp)) ?_
    simp
    refine GTK.callW (fun _ => ⟨T_live25, .nil⟩) ?_
    simp
theorem half_in {cs : List AV} (h : Sh Tryz.prog 80 cs) : ∃ p : Int × Int, mkAV true cs = halfA p ∧ True := by
  obtain ⟨hl, hf⟩ := h.struct_of ft_80
  obtain ⟨x, y, rfl⟩ : ∃ x y, cs = [x, y] := by
    match cs, hl with
    | [x, y], _ => exact ⟨x, y, rfl⟩
  obtain ⟨k, h1, w1⟩ := (hf (3, 0, 1) (by simp)).int_of un_3
  obtain ⟨i, h2, w2⟩ := (hf (3, 1, 1) (by simp)).int_of un_3
  simp at h1 h2
  subst h1; subst h2
  exact ⟨(k, i), rfl, trivial⟩
theorem halves_in {cs : List AV} (h : Sh Tryz.prog 34 cs) : ∃ l : List (Int × Int), cs = [.sl .no (halves' l)] ∧ l.length < 4611686018427387904 := by
  obtain ⟨ys, rfl, hy, b⟩ := h.sl_of un_34 ag_80
  obtain ⟨l, e, el, hl⟩ := list_in (f := halfA) (g := mkAV true) (Q := fun _ => True) (fun y hy' => half_in (hy y hy'))
  have hb : 1 ≤ Tryz.prog.bytesOf 80 := by decide +kernel
  have hr := reach_lt
  have := Nat.mul_le_mul_left ys.length hb
  exact ⟨l, by rw [e]; rfl, by omega⟩
theorem S_ReducePrograms {xs : List AV} (h : ShA Tryz.prog [22, 31, 34] xs) : T Tryz.prog 5 xs (.bool true) := by
  obtain ⟨y, r, rfl, h0, h⟩ := h.cons_of ag_22
  obtain ⟨y, r, rfl, h1, h⟩ := h.cons_of ag_31
  obtain ⟨y, r, rfl, h2, h⟩ := h.cons_of ag_34
  obtain rfl := h.nil_of
  obtain ⟨ps, rfl, hn⟩ := ints_in h0
  obtain ⟨l, rfl, hi, hl⟩ := rels_in h1
  obtain ⟨prog, rfl, hp⟩ := halves_in h2
  exact T_ReducePrograms ps l prog hn.2 hl hi hp
end Go.Proofs.YtjplcdeaedflpaaGreatDoor.PL
