/- Conditions, by where they are asked: all of a query's. -/
import Derived.Test.YtcjfjoilgnlemaaFNorm17
import Derived.Test.YtcjfjoilgnlemaaFNorm14
namespace Go.Proofs.Ytcjfjoilgnlemaa.PL
open Go.Proofs
set_option linter.unusedVariables false
set_option linter.unusedSimpArgs false
theorem MR.frz {α : Type} {f : α → AV} {sz : Nat} [hz : Sized f sz] [Selfs f] {H : List HO} {x : AV} {l : List α} {o : Option Nat} (h : MR f sz H x l o) : Frz H x (slA f l) := by
  cases o with
  | none => obtain ⟨rfl, rfl⟩ := h; exact Frz.slN (f := f) (l := [])
  | some k => obtain ⟨rfl, h⟩ := h; exact Frz.mvA h rfl
theorem FrzC.map {H : List HO} {α : Type} {f g : α → AV} : ∀ {l : List α}, (∀ a, a ∈ l → Frz H (f a) (g a)) → FrzC H (l.map f) (l.map g)
  | [], _ => .nil
  | a :: l, h => .cons (h a (List.mem_cons_self ..)) (FrzC.map fun b hb => h b (List.mem_cons_of_mem _ hb))
theorem Frz.scan {H : List HO} {r c : Nat} {x : Nat → AV} {L : Nat → List Ex'} (hr : H[r]? = some (.row c 1 (nrow c x))) (h : ∀ i, Frz H (x i) (slA Ex'.av (L i))) {m : List (List Ex')} (e : (List.range c).map (fun j => L (j + 2)) = m) : Frz H (.mv r c 1 0 c) (.sl .no (avs (slA Ex'.av) m)) := by
  subst e
  refine .mv hr ?_ (by simp) (fun y hy => by obtain ⟨a, ha, rfl⟩ := mem_avs.1 hy; rfl)
  rw [Nat.zero_mul, List.drop_zero, List.take_of_length_le (by simp), avs_flat_slA]
  have := FrzC.map (H := H) (f := fun j => x (j + 2)) (g := fun j => slA Ex'.av (L (j + 2))) (l := List.range c) fun a _ => h (a + 2)
  simpa [avs, List.map_map, Function.comp_def] using this
def edL (c : Nat) (l : List Ex') : List Edg := (l.filter (isWh c 3)).map asEdge
def lsL (c : Nat) (l : List Ex') (i : Nat) : List Ex' := l.filter fun e => decide (slotE c e = some i)
theorem addE_ed {c : Nat} {l : List Ex'} {e : Ex'} : addE c e (edL c l) = edL c (l ++ [e]) := by
  unfold addE edL isWh
  by_cases h : whereE c e = 3 <;> simp [h]
theorem addL_ls {c : Nat} {l : List Ex'} {e : Ex'} : addL c e (lsL c l) = lsL c (l ++ [e]) := by
  funext i
  unfold addL lsL
  by_cases h : slotE c e = some i <;> simp [h]
theorem edL_len (c : Nat) (l : List Ex') : (edL c l).length ≤ l.length := by rw [edL, List.length_map]; exact List.length_filter_le ..
theorem lsL_len (c : Nat) (l : List Ex') (i : Nat) : (lsL c l i).length ≤ l.length := List.length_filter_le ..
/-- some conditions put -/
def NSt (q : Qry) (l : List Ex') (H : List HO) : Prop := H[0]? = some (.box q.cs) ∧ H[1]? = some (.box zN) ∧ ∃ r xe oe x P, ASt 3 H 2 r (coreF q.frm) nE xe (edL (coreF q.frm) l) oe x (lsL (coreF q.frm) l) P
theorem repeatA_rep (a : AV) : ∀ c : Nat, repeatA [a] c = List.replicate c a
  | 0 => rfl
  | c + 1 => by rw [repeatA, repeatA_rep a c, List.replicate_succ]; rfl
theorem repeatA_row (c : Nat) : repeatA [.sl .exact []] c = nrow c fun _ => .sl .exact [] := by
  rw [repeatA_rep, nrow]
  exact (List.eq_replicate_iff.2 ⟨by simp, fun b hb => by obtain ⟨_, _, rfl⟩ := List.mem_map.1 hb; rfl⟩).symm
theorem NSt.nil (q : Qry) (R : List AV) (hR : R = repeatA [.sl .exact []] (coreF q.frm)) : NSt q [] [.box q.cs, .box zN, .box [.int .i64 (coreF q.frm), .mv 3 (coreF q.frm) 1 0 (coreF q.frm), nE, nE, nE, nE], .row (coreF q.frm) 1 R] := by
  subst hR
  rw [repeatA_row]
  exact ⟨rfl, rfl, 3, nE, none, fun _ => nE, fun _ => none, ⟨rfl, rfl, ⟨rfl, rfl⟩, fun _ => ⟨rfl, rfl⟩, fun _ _ a h => (nomatch h), ⟨Nat.le_refl _, fun a h => (nomatch h), fun i a h => (nomatch h)⟩, by simp⟩⟩
theorem NSt.app {q : Qry} {l : List Ex'} {H : List HO} (h : NSt q l H) (Y : List HO) : NSt q l (H ++ Y) := by
  obtain ⟨h0, h1, r, xe, oe, x, P, h⟩ := h
  exact ⟨getElem?_app h0, getElem?_app h1, r, xe, oe, x, P, h.app Y⟩
theorem NSt.add {q : Qry} {l : List Ex'} {H : List HO} (h : NSt q l H) (e : Ex') (he : OkE e) (hn : e.nodes ≤ 1000000) (hl : l.length ≤ 1000000) : TS Try.prog 78 [.ptr 2 0, e.av] H (fun _ H' => NSt q (l ++ [e]) H') := by
  obtain ⟨h0, h1, r, xe, oe, x, P, h⟩ := h
  refine (S_add e he hn h (by have := edL_len (coreF q.frm) l; omega) (fun i => by have := lsL_len (coreF q.frm) l i; omega)).mono ?_
  rintro _ H' ⟨xe', oe', x', P', h2, h3, h4⟩
  rw [addE_ed, addL_ls] at h2
  exact ⟨by rw [h3 0 (by omega) (by omega), h0], by rw [h3 1 (by omega) (by omega), h1], r, xe', oe', x', P', h2⟩
theorem slot_wh {c : Nat} {e : Ex'} : (slotE c e = some 0 ↔ whereE c e = 0) ∧ (slotE c e = some 1 ↔ whereE c e = 1) := by
  unfold slotE
  rcases where_vals c e with h | h | h | h <;> simp [h]
theorem where2' {c : Int} {e : Ex'} (h : whereE c e = 2) : ∃ u, usesI e = [u] ∧ 0 ≤ u := by
  obtain ⟨u, hu⟩ := where2 h
  refine ⟨u, hu, ?_⟩
  unfold whereE at h
  rw [hu] at h
  by_cases h0 : u < 0
  · simp [outI, h0] at h
  · omega
theorem slot_at {c j : Nat} {e : Ex'} : slotE c e = some (j + 2) ↔ (whereE c e = 2 ∧ usesI e = [(j : Int)]) := by
  unfold slotE
  rcases where_vals c e with h | h | h | h
  · simp [h]
  · simp [h]
  · obtain ⟨u, hu, h0⟩ := where2' h
    simp [h, hu]
    omega
  · simp [h]
theorem scan_ls (q : Qry) : (List.range (coreF q.frm)).map (fun j => lsL (coreF q.frm) (allF q) (j + 2)) = scanF q (coreF q.frm) := by
  apply List.map_congr_left
  intro j hj
  apply List.filter_congr
  intro e _
  simp only [isAt, ← Bool.decide_and]
  exact decide_eq_decide.2 slot_at
theorem rest_ls (q : Qry) : lsL (coreF q.frm) (allF q) 0 = (allF q).filter (isWh (coreF q.frm) 0) := by
  apply List.filter_congr
  intro e _
  exact decide_eq_decide.2 slot_wh.1
theorem whr_ls (q : Qry) : lsL (coreF q.frm) (allF q) 1 = (allF q).filter (isWh (coreF q.frm) 1) := by
  apply List.filter_congr
  intro e _
  exact decide_eq_decide.2 slot_wh.2
/-- a list that grows in memory -/
def GrL (sz : Nat) (H : List HO) (x : AV) (xs : List AV) : Option Nat → Prop
  | none => xs = [] ∧ (x = .sl .nil [] ∨ x = .sl .exact [])
  | some t => x = .sl (.tok t) xs ∧ H[t]? = some (.spare xs.length sz)
theorem GrL.own {sz : Nat} {H : List HO} {x : AV} {xs : List AV} {o : Option Nat} (h : GrL sz H x xs o) : ∃ own, x = .sl own xs := by
  cases o with
  | none => obtain ⟨rfl, h | h⟩ := h <;> exact ⟨_, h⟩
  | some t => exact ⟨_, h.1⟩
theorem ASt.late {b : Nat} {H : List HO} {N r c : Nat} {xl xe : AV} {E : List Edg} {oe : Option Nat} {x : Nat → AV} {L : Nat → List Ex'} {P : Nat → Option Nat} (h : ASt b H N r c xl xe E oe x L P) {H' : List HO} {xl' : AV} (hN : H'[N]? = some (.box [.int .i64 c, .mv r c 1 0 c, xe, x 0, xl', x 1])) (hfr : ∀ i a, H[i]? = some a → i ≠ N → (∀ n s, a ≠ .spare n s) → H'[i]? = some a) (hl : H.length ≤ H'.length) : ASt b H' N r c xl' xe E oe x L P where
  box := hN
  row := hfr _ _ h.row h.Nr.symm (fun n s => by simp)
  me := h.me.mono fun k _ hk => by
    rw [hfr _ _ hk (by rintro rfl; have := h.box; rw [hk] at this; cases this) (fun n s => by simp), hk]
  ms := fun i => (h.ms i).mono fun k _ hk => by
    rw [hfr _ _ hk (by rintro rfl; have := h.box; rw [hk] at this; cases this) (fun n s => by simp), hk]
  inj := h.inj
  low := h.low
  lb := by have := h.lb; omega
def NLt (q : Qry) (k : Nat) (H : List HO) : Prop := H[0]? = some (.box q.cs) ∧ H[1]? = some (.box zN) ∧ ∃ r xe oe x P xl ol, ASt 3 H 2 r (coreF q.frm) xl xe (edL (coreF q.frm) (allF q)) oe x (lsL (coreF q.frm) (allF q)) P ∧ GrL 5 H xl (ltsA (lateK q.frm (coreF q.frm) k)) ol
set_option maxRecDepth 4000 in
set_option maxHeartbeats 4000000 in
theorem T_nof (q : Qry) (hq : OkQ q) (hs : Smal q) : T Try.prog 34 [q.av] (normR q).av := by
  have kc := T_ncore q hq.len
  have hcl := coreF_le q.frm
  have kw := T_nparts q.whr hq.whr (by have := hs.whr; omega)
  have hwl := q.whr.parts_len
  have hal := allF_len hs
  have hao := allF_ok hq hs
  have s1 := hs.frm
  have s2 := hs.on
  have s3 := hs.whr
  simp only [Ex'.av_eq] at kw
  unfold normR
  refine T.introF (TS.body mix Try.func34 (by kernel_rfl) rfl (by kernel_rfl) (by simp) ?_)
  simp
  refine TS.callW kc (Dws.self (by simp)) ?_
  simp
  refine ⟨⟨by omega, by omega⟩, ?_⟩
  obtain ⟨c, hc⟩ : ∃ c, c = coreF q.frm := ⟨_, rfl⟩
  refine vc_loop (fun i : Nat => q.frm.length - i) (fun i e H => e 1 = .ptr 0 0 ∧ e 2 = .ptr 1 0 ∧ e 3 = .ptr 2 0 ∧ e 19 = .sl .no (frms q.frm) ∧ e 20 = .int .i64 q.frm.length ∧ e 21 = .int .i64 i ∧ i ≤ q.frm.length ∧ NSt q (onsF q.frm (min i (coreF q.frm) - 1)) H) 0 ?_ ?_
  · simp
    have : onsF q.frm 0 = [] := by simp [onsF, Ex'.partsL]
    rw [this]
    exact NSt.nil q _ rfl
  rintro i e H ⟨e1, e2, e3, e19, e20, e21, hi, hst⟩
  by_cases hlt : i < q.frm.length
  · have ew := wrap_next hlt (by omega)
    have hfm := List.getElem_mem hlt
    have hst' := hst
    obtain ⟨h0, h1, r, xe, oe, x, P, hA⟩ := hst'
    have h2 := hA.box
    have g0' : ∀ Y : List HO, (H ++ Y)[0]? = some (.box q.cs) := fun Y => getElem?_app h0
    have g2' : ∀ Y : List HO, (H ++ Y)[2]? = some (.box [.int .i64 (coreF q.frm), .mv r (coreF q.frm) 1 0 (coreF q.frm), xe, x 0, nE, x 1]) := fun Y => getElem?_app h2
    have hon : ∀ k, (k = i + 1 → coreF q.frm ≤ i ∨ i = 0) → k = i + 1 → onsF q.frm (min k (coreF q.frm) - 1) = onsF q.frm (min i (coreF q.frm) - 1) := fun k h hk => by
      rcases h hk with h | h
      · rw [show min k (coreF q.frm) - 1 = min i (coreF q.frm) - 1 by omega]
      · rw [show min k (coreF q.frm) - 1 = min i (coreF q.frm) - 1 by omega]
    by_cases hz : i = 0
    · subst hz
      simp [e1, e2, e3, e19, e20, e21, hlt, g0', g2']
      refine ⟨1, by omega, by omega, by omega, ?_⟩
      rw [hon 1 (fun _ => .inr rfl) rfl]
      exact hst.app _
    by_cases hge : coreF q.frm ≤ i
    · simp [e1, e2, e3, e19, e20, e21, hlt, g0', g2', hz, hge]
      refine ⟨i + 1, by omega, ew, by omega, ?_⟩
      rw [hon _ (fun _ => .inl hge) rfl]
      exact hst.app _
    have hge' : ¬ ((coreF q.frm : Int) ≤ i) := by omega
    have hon2 : onsF q.frm (min (i + 1) (coreF q.frm) - 1) = onsF q.frm (min i (coreF q.frm) - 1) ++ (q.frm[i]).on.parts := by
      have := onsF_next (frm := q.frm) (k := i - 1) (by omega)
      rw [show min (i + 1) (coreF q.frm) - 1 = i - 1 + 1 by omega, show min i (coreF q.frm) - 1 = i - 1 by omega, this]
      congr 4
      omega
    have kp := T_nparts (q.frm[i]).on (hq.frm _ hfm).on (by have := s2 _ hfm; omega)
    have hp0 := (q.frm[i]).on.parts_ok (hq.frm _ hfm).on
    have hp1 := (q.frm[i]).on.parts_len
    have hp2 := s2 _ hfm
    have hol := onsF_len s2 (min i (coreF q.frm) - 1)
    simp only [Ex'.av_eq] at kp
    simp [e1, e2, e3, e19, e20, e21, hlt, g0', g2', hz, hge, hge']
    refine TS.callW kp (Dws.self (by simp)) ?_
    simp
    have hst1 := hst.app [.box (q.frm[i]).cs]
    obtain ⟨L, hL⟩ : ∃ L, L = onsF q.frm (min i (coreF q.frm) - 1) := ⟨_, rfl⟩
    obtain ⟨C, hC⟩ : ∃ C, C = (q.frm[i]).on.parts := ⟨_, rfl⟩
    rw [← hL] at hst1 hon2 hol
    rw [← hC] at hon2 hp0 hp1 ⊢
    clear hst hA h2 g0' g2' h0 h1 kp
    refine vc_loop (fun j : Nat => C.length - j) (fun j e H => e 1 = .ptr 0 0 ∧ e 2 = .ptr 1 0 ∧ e 3 = .ptr 2 0 ∧ e 19 = .sl .no (frms q.frm) ∧ e 20 = .int .i64 q.frm.length ∧ e 21 = .int .i64 i ∧ e 36 = .sl .no (exprs C) ∧ e 37 = .int .i64 C.length ∧ e 38 = .int .i64 j ∧ j ≤ C.length ∧ NSt q (L ++ C.take j) H) 0 ?_ ?_
    · simp [e1, e2, e3, e19, e20, e21]
      exact hst1
    clear hst1 e1 e2 e3 e19 e20 e21 e H
    rintro j e H ⟨e1, e2, e3, e19, e20, e21, e36, e37, e38, hj, hst⟩
    by_cases hjt : j < C.length
    · have ew2 := wrap_next hjt (by omega)
      have hp := hp0 _ (List.getElem_mem hjt)
      have ka := (hst.app [.box (C[j]).cs]).add C[j] hp.1 (by omega) (by rw [List.length_append, List.length_take]; omega)
      simp only [Ex'.av_eq] at ka
      simp [e1, e2, e3, e19, e20, e21, e36, e37, e38, hjt]
      refine ka.mono ?_
      rintro r' H' hst'
      simp [e1, e2, e3, e19, e20, e21, e36, e37, e38, hjt]
      refine ⟨j + 1, by omega, ew2, by omega, ?_⟩
      rw [take_next hjt, ← List.append_assoc]
      exact hst'
    · have : j = C.length := by omega
      subst this
      rw [List.take_length, ← hon2] at hst
      simp [e1, e2, e3, e19, e20, e21, e36, e37, e38]
      exact ⟨i + 1, by omega, ew, by omega, hst⟩
  have hil : i = q.frm.length := by omega
  subst hil
  rw [show min q.frm.length (coreF q.frm) - 1 = coreF q.frm - 1 by omega] at hst
  have hst' := hst
  obtain ⟨h0, h1, r, xe, oe, x, P, hA⟩ := hst'
  have hp0 := q.whr.parts_ok hq.whr
  have hall : allF q = onsF q.frm (coreF q.frm - 1) ++ q.whr.parts := rfl
  have hol := onsF_len s2 (coreF q.frm - 1)
  simp [e1, e2, e3, e19, e20, e21, h0]
  refine TS.callW kw (Dws.self (by simp)) ?_
  simp
  obtain ⟨L, hL⟩ : ∃ L, L = onsF q.frm (coreF q.frm - 1) := ⟨_, rfl⟩
  obtain ⟨C, hC⟩ : ∃ C, C = q.whr.parts := ⟨_, rfl⟩
  rw [← hL] at hst hall hol
  rw [← hC] at hall hp0 hwl ⊢
  clear hA h0 h1 kw
  refine vc_loop (fun j : Nat => C.length - j) (fun j e H => e 1 = .ptr 0 0 ∧ e 2 = .ptr 1 0 ∧ e 3 = .ptr 2 0 ∧ e 48 = .sl .no (exprs C) ∧ e 49 = .int .i64 C.length ∧ e 50 = .int .i64 j ∧ j ≤ C.length ∧ NSt q (L ++ C.take j) H) 0 ?_ ?_
  · simp [e1, e2, e3]
    exact hst
  clear hst e1 e2 e3 e19 e20 e21 e H
  rintro j e H ⟨e1, e2, e3, e48, e49, e50, hj, hst⟩
  by_cases hjt : j < C.length
  · have ew2 := wrap_next hjt (by omega)
    have hp := hp0 _ (List.getElem_mem hjt)
    have ka := (hst.app [.box (C[j]).cs]).add C[j] hp.1 (by omega) (by rw [List.length_append, List.length_take]; omega)
    simp only [Ex'.av_eq] at ka
    simp [e1, e2, e3, e48, e49, e50, hjt]
    refine ka.mono ?_
    rintro r' H' hst'
    simp [e1, e2, e3, e48, e49, e50, hjt]
    refine ⟨j + 1, by omega, ew2, by omega, ?_⟩
    rw [take_next hjt, ← List.append_assoc]
    exact hst'
  have : j = C.length := by omega
  subst this
  rw [List.take_length, ← hall] at hst
  obtain ⟨h0, h1, r, xe, oe, x, P, hA⟩ := hst
  have h2 := hA.box
  simp [e1, e2, e3, e48, e49, e50, h2]
  refine vc_loop (fun k : Nat => q.frm.length - k) (fun k e H => e 1 = .ptr 0 0 ∧ e 2 = .ptr 1 0 ∧ e 3 = .ptr 2 0 ∧ e 10 = .int .i64 ((coreF q.frm + k : Nat) : Int) ∧ k ≤ q.frm.length - coreF q.frm ∧ NLt q k H) 0 ?_ ?_
  · simp [e1, e2, e3]
    exact ⟨h0, h1, r, xe, oe, x, P, nE, none, hA, rfl, .inr rfl⟩
  clear e1 e2 e3 e48 e49 e50 e H h0 h1 hA h2 r xe oe x P hall
  rintro k e H ⟨e1, e2, e3, e10, hk, h0, h1, r, xe, oe, x, P, xl, ol, hA, gl⟩
  have h2 := hA.box
  have h2l := (List.getElem?_eq_some_iff.1 h2).1
  have g0' : ∀ Y : List HO, (H ++ Y)[0]? = some (.box q.cs) := fun Y => getElem?_app h0
  have g2' : ∀ Y : List HO, (H ++ Y)[2]? = some (.box [.int .i64 (coreF q.frm), .mv r (coreF q.frm) 1 0 (coreF q.frm), xe, x 0, xl, x 1]) := fun Y => getElem?_app h2
  by_cases hkl : coreF q.frm + k < q.frm.length
  · have hfm := List.getElem_mem hkl
    have kl := T_nlate (q.frm[coreF q.frm + k]) ((coreF q.frm + k : Nat) : Int) (hq.frm _ hfm) (by have := s2 _ hfm; omega)
    have ekw : IntKind.i64.wrap (((coreF q.frm + k : Nat) : Int) + 1) = ((coreF q.frm + k + 1 : Nat) : Int) := wrap_next hkl (by omega)
    have hnx : lateK q.frm (coreF q.frm) (k + 1) = lateK q.frm (coreF q.frm) k ++ [lateF (q.frm[coreF q.frm + k]) ((coreF q.frm + k : Nat) : Int)] := by rw [lateK, List.getElem?_eq_getElem hkl]
    have hll : (lateK q.frm (coreF q.frm) k).length ≤ k := lateK_len _ _ _
    obtain ⟨c1, hc1⟩ : ∃ c1, c1 = coreF q.frm + k := ⟨_, rfl⟩
    simp only [← hc1] at e10 hkl kl ekw hnx
    simp [e1, e2, e3, e10, hkl, h0, h2]
    refine TDK.callW kl (Dws.self (by simp)) ?_
    cases ol with
    | none =>
      obtain ⟨g0, gx⟩ := gl
      rw [avs_eq_nil] at g0
      rw [g0] at hnx
      have ex : xl.ex = .sl .exact [] := by rcases gx with h | h <;> rw [h] <;> rfl
      simp [e1, e2, e3, e10, hkl, ex, h0, h2, g0', g2']
      refine ⟨k + 1, by omega, by rw [ekw, hc1]; omega, by omega, ?_, ?_, r, xe, oe, x, P, _, some H.length, hA.late (List.getElem?_set_self (by simp; omega)) (fun i a hi hn _ => by rw [List.getElem?_set_ne (Ne.symm hn), getElem?_app hi]) (by simp), ?_⟩
      · rw [List.getElem?_set_ne (by omega), getElem?_app h0]
      · rw [List.getElem?_set_ne (by omega), getElem?_app h1]
      · rw [hnx]
        exact ⟨rfl, by rw [List.getElem?_set_ne (by omega)]; simp⟩
    | some w =>
      obtain ⟨rfl, hw⟩ := gl
      have hwl := (List.getElem?_eq_some_iff.1 hw).1
      have hw0 : w ≠ 0 := by rintro rfl; rw [h0] at hw; cases hw
      have hw1 : w ≠ 1 := by rintro rfl; rw [h1] at hw; cases hw
      have hw2 : w ≠ 2 := by rintro rfl; rw [h2] at hw; cases hw
      have g3 : ∀ R, (H.set w R)[2]? = H[2]? := fun R => List.getElem?_set_ne hw2
      have g4 : ∀ R, (H.set w R)[0]? = H[0]? := fun R => List.getElem?_set_ne hw0
      simp [e1, e2, e3, e10, hkl, hw, h0, h2, g3, g4]
      refine ⟨⟨by omega, by omega⟩, k + 1, by omega, by rw [ekw, hc1]; omega, by omega, ?_, ?_, r, xe, oe, x, P, _, some w, hA.late (List.getElem?_set_self (by simp; omega)) (fun i a hi hn hs => by rw [List.getElem?_set_ne (Ne.symm hn), List.getElem?_set_ne (by rintro rfl; rw [hw] at hi; exact hs _ _ (Option.some.inj hi).symm), hi]) (by simp), ?_⟩
      · rw [List.getElem?_set_ne (by omega), g4, h0]
      · rw [List.getElem?_set_ne (by omega), List.getElem?_set_ne hw1, h1]
      · rw [hnx]
        exact ⟨rfl, by rw [List.getElem?_set_ne (Ne.symm hw2), List.getElem?_set_self hwl]; simp⟩
  · have hke : k = q.frm.length - coreF q.frm := by omega
    have hkn : coreF q.frm + k = q.frm.length := by omega
    rw [hke] at gl
    obtain ⟨oL, rfl⟩ := gl.own
    rw [hkn] at e10
    have m1 : ∀ B : HO, (H.set 1 B)[1]? = some B := fun B => List.getElem?_set_self (by omega)
    simp [e1, e2, e3, e10, h0, h1, h2, m1]
    have lo : ∀ (B : HO) (k : Nat), 3 ≤ k → (H.set 1 B)[k]? = H[k]? := fun B k hk => List.getElem?_set_ne (by omega)
    have ms : ∀ B i, Frz (H.set 1 B) (x i) (slA Ex'.av (lsL (coreF q.frm) (allF q) i)) := fun B i => ((hA.ms i).mono fun k hk _ => lo B k (hA.low.2.2 i k hk)).frz
    have m0 := ms
    refine .agg (.cons (Frz.of_cl2 (by simp)) (.cons (Frz.scan (by rw [lo _ _ hA.low.1]; exact hA.row) (ms _) (scan_ls q)) (.cons (hA.me.mono fun k hk _ => lo _ k (hA.low.2.1 k hk)).frz (.cons ?_ (.cons (Frz.slN (f := Lt.av)) (.cons ?_ .nil))))))
    · rw [← rest_ls]; exact ms _ 0
    · rw [← whr_ls]; exact ms _ 1
end Go.Proofs.Ytcjfjoilgnlemaa.PL
