/- AggGroups: groups by keys. -/
import Derived.Test.YtaahlhhpmooliaaDoorFRows3
import Derived.Test.YtaahlhhpmooliaaDoorFEval2
import Derived.Test.YtaahlhhpmooliaaDoorFTree4
import Derived.Test.YtaahlhhpmooliaaDoorFUf4
import Derived.Test.YtaahlhhpmooliaaDoorFAgg
namespace Go.Proofs.YtaahlhhpmooliaaDoor.PL
open Go.Proofs
set_option linter.unusedVariables false
set_option linter.unusedSimpArgs false
/-- the first place with the same key -/
def rhoK {α : Type} [DecidableEq α] (κ : Nat → α) (i : Nat) : Nat := (List.range i).findIdx fun j => decide (κ j = κ i)
section
variable {α : Type} [DecidableEq α] {κ : Nat → α}
theorem rhoK_le (i : Nat) : rhoK κ i ≤ i := by
  unfold rhoK
  have := List.findIdx_le_length (p := fun j => decide (κ j = κ i)) (xs := List.range i)
  simpa using this
theorem rhoK_same (i : Nat) : κ (rhoK κ i) = κ i := by
  by_cases h : rhoK κ i < i
  · have h2 : (List.range i).findIdx (fun j => decide (κ j = κ i)) < (List.range i).length := by simpa [rhoK] using h
    have := List.findIdx_getElem (w := h2)
    simpa [rhoK] using this
  · have := rhoK_le (κ := κ) i
    rw [show rhoK κ i = i by omega]
theorem rhoK_min {i j : Nat} (h : j < rhoK κ i) : κ j ≠ κ i := by
  have hle := rhoK_le (κ := κ) i
  have h2 := List.not_of_lt_findIdx (p := fun j => decide (κ j = κ i)) (xs := List.range i) (i := j) h
  simpa using h2
theorem rhoK_eq {i j : Nat} (h : κ i = κ j) : rhoK κ i = rhoK κ j := by
  rcases Nat.lt_trichotomy (rhoK κ i) (rhoK κ j) with c | c | c
  · exact absurd ((rhoK_same i).trans h) (rhoK_min c)
  · exact c
  · exact absurd ((rhoK_same j).trans h.symm) (rhoK_min c)
theorem rhoK_idem (i : Nat) : rhoK κ (rhoK κ i) = rhoK κ i := rhoK_eq (rhoK_same i)
theorem rsA_inj {n x y : Nat} (hx : x ∈ rsA (rhoK κ) n) (hy : y ∈ rsA (rhoK κ) n) (h : κ x = κ y) : x = y := by
  have h1 := (mem_rsA.1 hx).2
  have h2 := (mem_rsA.1 hy).2
  rw [← h1, ← h2]
  exact rhoK_eq h
end
def esG (kf : Nat → ByteArray) : Nat → List Nat → List (ByteArray × Nat)
  | _, [] => []
  | j, r :: rs => (kf r, j) :: esG kf (j + 1) rs
theorem esG_append {kf : Nat → ByteArray} : ∀ {rs : List Nat} {j x : Nat}, esG kf j (rs ++ [x]) = esG kf j rs ++ [(kf x, j + rs.length)]
  | [], j, x => rfl
  | r :: rs, j, x => by
    rw [List.cons_append, esG, esG_append, esG, List.cons_append, List.length_cons]
    congr 4
    omega
theorem esG_none {kf : Nat → ByteArray} : ∀ {rs : List Nat} {j : Nat} {k : ByteArray}, (∀ r, r ∈ rs → k ≠ kf r) → getL k (esG kf j rs) = none
  | [], j, k, _ => rfl
  | r :: rs, j, k, h => by
    rw [esG, getL_cons, if_neg (h r List.mem_cons_self), esG_none fun x hx => h x (List.mem_cons_of_mem _ hx)]
theorem esG_some {kf : Nat → ByteArray} : ∀ {rs : List Nat} {j q x : Nat}, (∀ a b, a ∈ rs → b ∈ rs → kf a = kf b → a = b) → rs.Nodup → rs[q]? = some x → getL (kf x) (esG kf j rs) = some (j + q)
  | [], j, q, x, _, _, h => by cases h
  | r :: rs, j, 0, x, _, hn, h => by
    simp at h
    subst h
    rw [esG, getL_cons, if_pos rfl, Nat.add_zero]
  | r :: rs, j, q + 1, x, hi, hn, h => by
    simp at h
    have hx := List.mem_of_getElem? h
    have hr := (List.nodup_cons.1 hn).1
    have hne : ¬ kf x = kf r := fun e => hr (hi x r (List.mem_cons_of_mem _ hx) List.mem_cons_self e ▸ hx)
    rw [esG, getL_cons, if_neg hne, esG_some (fun a b ha hb => hi a b (List.mem_cons_of_mem _ ha) (List.mem_cons_of_mem _ hb)) (List.nodup_cons.1 hn).2 h]
    congr 1
    omega
/-- lists that grow, in a list that grows -/
structure Toks (H : List HO) (L : List (Own × List Nat)) : Prop where
  at' : ∀ (j t : Nat) (c : List Nat), L[j]? = some (Own.tok t, c) → H[t]? = some (HO.spare c.length 1)
  inj : ∀ (j k t : Nat) (c d : List Nat), L[j]? = some (Own.tok t, c) → L[k]? = some (Own.tok t, d) → j = k
  own : ∀ (j : Nat) (o : Own) (c : List Nat), L[j]? = some (o, c) → (∃ t, o = Own.tok t) ∨ o = Own.exact
def GS (H : List HO) (x : AV) (L : List (Own × List Nat)) : Prop := (L = [] ∧ x = .sl .nil []) ∨ ∃ r, L ≠ [] ∧ x = .mv r L.length 1 0 L.length ∧ H[r]? = some (.row L.length 1 (avs (oslA natA) L)) ∧ Toks H L
theorem Toks.nil (H : List HO) : Toks H [] := ⟨fun _ _ _ h => by simp at h, fun _ _ _ _ _ h => by simp at h, fun _ _ _ h => by simp at h⟩
theorem Toks.one (H : List HO) (c : List Nat) : Toks H [(Own.exact, c)] := by
  refine ⟨fun j t d h => ?_, fun j k t d d' h h' => ?_, fun j o d h => ?_⟩
  all_goals
    have hj : j = 0 := by have := (List.getElem?_eq_some_iff.1 h).1; simp at this; omega
    subst hj
    simp at h
  exact .inr h.1.symm
theorem Toks.app {H J : List HO} {L : List (Own × List Nat)} (h : Toks H L) : Toks (H ++ J) L :=
  ⟨fun j t c e => by have := h.at' j t c e; rw [List.getElem?_append_left (List.getElem?_eq_some_iff.1 this).1]; exact this, h.inj, h.own⟩
theorem GS.app {H J : List HO} {x : AV} {L : List (Own × List Nat)} (h : GS H x L) : GS (H ++ J) x L := by
  rcases h with h | ⟨r, h0, h1, h2, h3⟩
  · exact .inl h
  · exact .inr ⟨r, h0, h1, by rw [List.getElem?_append_left (List.getElem?_eq_some_iff.1 h2).1]; exact h2, h3.app⟩
theorem Toks.push {H : List HO} {L : List (Own × List Nat)} (h : Toks H L) {t : Nat} {c : List Nat} (ht : t = H.length) (hc : c.length = 1) : Toks (H ++ [.spare 1 1]) (L ++ [(.tok t, c)]) := by
  subst ht
  have h1 := h.app (J := [.spare 1 1])
  refine ⟨fun j u d e => ?_, fun j k u d d' e e' => ?_, fun j o d e => ?_⟩
  · by_cases hj : j < L.length
    · rw [List.getElem?_append_left hj] at e; exact h1.at' j u d e
    · obtain rfl : j = L.length := by have := (List.getElem?_eq_some_iff.1 e).1; simp at this; omega
      simp at e
      obtain ⟨rfl, rfl⟩ := e
      simp [hc]
  · have key : ∀ q x, (L ++ [(Own.tok H.length, c)])[q]? = some (.tok u, x) → q < L.length → u < H.length := fun q x e hq => by
      rw [List.getElem?_append_left hq] at e
      exact (List.getElem?_eq_some_iff.1 (h.at' q u x e)).1
    have key2 : ∀ q x, (L ++ [(Own.tok H.length, c)])[q]? = some (.tok u, x) → ¬ q < L.length → q = L.length ∧ u = H.length := fun q x e hq => by
      obtain rfl : q = L.length := by have := (List.getElem?_eq_some_iff.1 e).1; simp at this; omega
      simp at e
      exact ⟨rfl, e.1.symm⟩
    by_cases hj : j < L.length <;> by_cases hk : k < L.length
    · rw [List.getElem?_append_left hj] at e; rw [List.getElem?_append_left hk] at e'; exact h.inj j k u d d' e e'
    · have := key j d e hj; have := (key2 k d' e' hk).2; omega
    · have := key k d' e' hk; have := (key2 j d e hj).2; omega
    · have := (key2 j d e hj).1; have := (key2 k d' e' hk).1; omega
  · by_cases hj : j < L.length
    · rw [List.getElem?_append_left hj] at e; exact h.own j o d e
    · obtain rfl : j = L.length := by have := (List.getElem?_eq_some_iff.1 e).1; simp at this; omega
      simp at e
      exact .inl ⟨_, e.1.symm⟩
theorem Toks.grow {H : List HO} {L : List (Own × List Nat)} (h : Toks H L) {j t : Nat} {c d : List Nat} (hj : L[j]? = some (.tok t, c)) {n : Nat} (hd : n = d.length) : Toks (H.set t (.spare n 1)) (L.set j (.tok t, d)) := by
  subst hd
  have hjl := (List.getElem?_eq_some_iff.1 hj).1
  have htl := (List.getElem?_eq_some_iff.1 (h.at' j t c hj)).1
  have old : ∀ (k : Nat) (o : Own) (x : List Nat), (L.set j (Own.tok t, d))[k]? = some (o, x) → k ≠ j → L[k]? = some (o, x) := fun k o x e hk => by
    rw [List.getElem?_set_ne (fun q => hk q.symm)] at e; exact e
  refine ⟨fun k u x e => ?_, fun k k' u x x' e e' => ?_, fun k o x e => ?_⟩
  · by_cases hk : k = j
    · subst hk
      rw [List.getElem?_set_self hjl] at e
      simp at e
      obtain ⟨rfl, rfl⟩ := e
      rw [List.getElem?_set_self htl]
    · have e2 := old k _ x e hk
      have hne : t ≠ u := fun q => hk (h.inj k j u x c e2 (q ▸ hj))
      rw [List.getElem?_set_ne hne]
      exact h.at' k u x e2
  · have key : ∀ (q : Nat) (x : List Nat), (L.set j (Own.tok t, d))[q]? = some (Own.tok u, x) → ∃ y, L[q]? = some (Own.tok u, y) := fun q x e => by
      by_cases hq : q = j
      · subst hq
        rw [List.getElem?_set_self hjl] at e
        simp at e
        exact ⟨c, by rw [← e.1]; exact hj⟩
      · exact ⟨x, old q _ x e hq⟩
    obtain ⟨y, hy⟩ := key k x e
    obtain ⟨y', hy'⟩ := key k' x' e'
    exact h.inj k k' u y y' hy hy'
  · by_cases hk : k = j
    · subst hk
      rw [List.getElem?_set_self hjl] at e
      simp at e
      exact .inl ⟨_, e.1.symm⟩
    · exact h.own k o x (old k o x e hk)
theorem Toks.other {H : List HO} {L : List (Own × List Nat)} (h : Toks H L) {r : Nat} {o o' : HO} (hr : H[r]? = some o) (hne : ∀ n, o ≠ .spare n 1) : Toks (H.set r o') L :=
  ⟨fun j t c e => by
    have h1 := h.at' j t c e
    have : r ≠ t := fun q => by subst q; rw [hr] at h1; exact hne _ (Option.some.inj h1)
    rw [List.getElem?_set_ne this]
    exact h1, h.inj, h.own⟩

theorem Toks.pushX {H : List HO} {L : List (Own × List Nat)} (h : Toks H L) {c : List Nat} : Toks H (L ++ [(.exact, c)]) := by
  have cs : ∀ (k : Nat) (o : Own) (x : List Nat), (L ++ [(Own.exact, c)])[k]? = some (o, x) → L[k]? = some (o, x) ∨ o = .exact := fun k o x e => by
    by_cases hk : k < L.length
    · rw [List.getElem?_append_left hk] at e; exact .inl e
    · obtain rfl : k = L.length := by have := (List.getElem?_eq_some_iff.1 e).1; simp at this; omega
      simp at e
      exact .inr e.1.symm
  refine ⟨fun k u x e => ?_, fun k k' u x x' e e' => ?_, fun k o x e => ?_⟩
  · rcases cs k _ x e with q | q
    · exact h.at' k u x q
    · cases q
  · rcases cs k _ x e with q | q
    · rcases cs k' _ x' e' with q' | q'
      · exact h.inj k k' u x x' q q'
      · cases q'
    · cases q
  · rcases cs k o x e with q | q
    · exact h.own k o x q
    · exact .inr q
theorem Toks.fresh {H : List HO} {L : List (Own × List Nat)} (h : Toks H L) {j t n : Nat} {d : List Nat} (ht : t = H.length) (hj : j < L.length) (hd : n = d.length) : Toks (H ++ [.spare n 1]) (L.set j (.tok t, d)) := by
  subst hd; subst ht
  have h1 := h.app (J := [.spare d.length 1])
  have cs : ∀ (k : Nat) (o : Own) (x : List Nat), (L.set j (Own.tok H.length, d))[k]? = some (o, x) → (k = j ∧ o = .tok H.length ∧ x = d) ∨ (k ≠ j ∧ L[k]? = some (o, x)) := fun k o x e => by
    by_cases hk : k = j
    · subst hk
      rw [List.getElem?_set_self hj] at e
      simp at e
      exact .inl ⟨rfl, e.1.symm, e.2.symm⟩
    · rw [List.getElem?_set_ne (fun q => hk q.symm)] at e
      exact .inr ⟨hk, e⟩
  refine ⟨fun k u x e => ?_, fun k k' u x x' e e' => ?_, fun k o x e => ?_⟩
  · rcases cs k _ x e with ⟨_, q, rfl⟩ | ⟨_, q⟩
    · cases q; simp
    · exact h1.at' k u x q
  · rcases cs k _ x e with ⟨e1, q, _⟩ | ⟨e1, q⟩ <;> rcases cs k' _ x' e' with ⟨e2, q', _⟩ | ⟨e2, q'⟩
    · omega
    · cases q
      have := (List.getElem?_eq_some_iff.1 (h.at' k' _ x' q')).1
      omega
    · cases q'
      have := (List.getElem?_eq_some_iff.1 (h.at' k _ x q)).1
      omega
    · exact h.inj k k' u x x' q q'
  · rcases cs k o x e with ⟨_, q, _⟩ | ⟨_, q⟩
    · exact .inl ⟨_, q⟩
    · exact h.own k o x q
theorem avs_put {L : List (Own × List Nat)} {j : Nat} (hj : j < L.length) {o : Own} {d : List Nat} : avs (oslA natA) (L.take j) ++ AV.sl o (avs natA d) :: avs (oslA natA) (L.drop (j + 1)) = avs (oslA natA) (L.set j (o, d)) := by
  rw [List.set_eq_take_append_cons_drop, if_pos hj]
  simp [avs, oslA]
def MapAt (H : List HO) (es : List (ByteArray × Nat)) : Prop := H[0]? = some (.mp (mpA AV.str natA es) (some 0))
abbrev env3 (E : List (List (List Val))) : AV := .sl .no (avs (fun e => AV.sl .no (rows' e)) E)
def colsR (e : List (List Val)) (by' : List Ex') : List Val := by'.map fun x => atV e x.t x.c
theorem colsR_next {e : List (List Val)} {by' : List Ex'} {j : Nat} (h : j < by'.length) : colsR e (by'.take (j + 1)) = colsR e (by'.take j) ++ [atV e by'[j].t by'[j].c] := by
  unfold colsR; rw [take_next h, List.map_append]; rfl
def kapK (E : List (List (List Val))) (by' : List Ex') (i : Nat) : List Val := colsR (E.getD i []) by'
set_option maxRecDepth 4000 in
theorem T_groups (E : List (List (List Val))) (by' : List Ex') (all : Bool) (hE : E.length ≤ 1000) (hb : by'.length ≤ 40) (hk : ∀ i, i64V (kapK E by' i) ∧ ∀ v, v ∈ kapK E by' i → v.s.size ≤ 2000)
    (hinj : ∀ i j, keyR (kapK E by' i) = keyR (kapK E by' j) → kapK E by' i = kapK E by' j) :
    T Tryd.prog 11 [env3 E, .sl .no (exprs by'), .bool all] (slA (slA natA) (if E = [] ∧ by' = [] ∧ all = true then [[]] else csA (rhoK (kapK E by')) E.length)) := by
  obtain ⟨n, hn⟩ : ∃ n, E.length = n := ⟨_, rfl⟩
  obtain ⟨κ, hκ⟩ : ∃ κ, kapK E by' = κ := ⟨_, rfl⟩
  have hκi : ∀ i (h : i < E.length), κ i = colsR E[i] by' := fun i h => by rw [← hκ]; unfold kapK; rw [List.getD_eq_getElem?_getD, List.getElem?_eq_getElem h]; rfl
  rw [hκ] at hk hinj ⊢
  rw [hn] at hE ⊢
  refine T.introF (TS.bodyM [58] mix Tryd.func11 (by kernel_rfl) rfl (by kernel_rfl) (by simp) ?_)
  simp
  refine vc_loop (fun a : Nat => n - a) (fun a e H => ∃ L : List (Own × List Nat), e 1 = .sl .no (exprs by') ∧ e 2 = .bool all ∧ e 8 = .map 0 ∧ e 18 = env3 E ∧ e 19 = .int .i64 n ∧ e 20 = .int .i64 a ∧ a ≤ n ∧ GS H (e 7) L ∧ L.map Prod.snd = csA (rhoK κ) a ∧ MapAt H (esG (fun i => keyR (κ i)) 0 (rsA (rhoK κ) a))) 0 ?_ ?_
  · exact ⟨[], by simp [GS, csA, rsA, esG, mpA, hn, MapAt]⟩
  rintro a e H ⟨L, h1, h2, h8, h18, h19, h20, ha, hg, hL, hm⟩
  by_cases hlt : a < n
  · have ew := wrap_next hlt (by omega)
    have hla : a < E.length := by omega
    simp [h1, h2, h8, h18, h19, h20, hlt, hla]
    refine vc_loop (fun j : Nat => by'.length - j) (fun j e' H' => ∃ J : List HO, e' 1 = .sl .no (exprs by') ∧ e' 2 = .bool all ∧ e' 7 = e 7 ∧ e' 8 = .map 0 ∧ e' 9 = .int .i64 a ∧ e' 10 = .sl .no (rows' E[a]) ∧ e' 18 = env3 E ∧ e' 19 = .int .i64 n ∧ e' 20 = .int .i64 a ∧ e' 25 = .sl .no (exprs by') ∧ e' 26 = .int .i64 by'.length ∧ e' 27 = .int .i64 j ∧ j ≤ by'.length ∧ GrowB 3 H J (e' 11) (vals' (colsR E[a] (by'.take j))) ∧ H' = H ++ J) 0 ?_ ?_
    · exact ⟨[], by simp [h1, h2, h8, h18, h19, h20, colsR, GrowB]⟩
    rintro j e' H' ⟨J, g1, g2, g7, g8, g9, g10, g18, g19, g20, g25, g26, g27, hj, hgb, rfl⟩
    by_cases hjl : j < by'.length
    · have ewj := wrap_next hjl (by omega)
      have kat := T_at E[a] by'[j].t by'[j].c
      simp [g1, g2, g7, g8, g9, g10, g18, g19, g20, g25, g26, g27, hjl]
      refine TS.callW kat (Dws.self (by simp)) ?_
      have hnx := colsR_next (e := E[a]) hjl
      have hln : (colsR E[a] (by'.take j)).length = j := by unfold colsR; simp; omega
      rcases hgb with ⟨ge, hgb⟩ | ⟨t, hgb, ht⟩
      · rw [avs_eq_nil] at ge
        simp [g1, g2, g7, g8, g9, g10, g18, g19, g20, g25, g26, g27, hjl, hgb]
        refine ⟨j + 1, by omega, ewj, by omega, ?_⟩
        rw [hnx, ge]
        exact .inr ⟨J.length + 1, rfl, by simp⟩
      · have ht' : ∀ Y : List HO, (J ++ Y)[t]? = some (.spare (colsR E[a] (by'.take j)).length 3) := fun Y => by rw [List.getElem?_append_left (List.getElem?_eq_some_iff.1 ht).1]; simpa using ht
        have htl := (List.getElem?_eq_some_iff.1 ht).1
        simp [g1, g2, g7, g8, g9, g10, g18, g19, g20, g25, g26, g27, hjl, hgb, app_atn, app_setn, ht']
        refine ⟨⟨by omega, by omega⟩, j + 1, by omega, ewj, by omega, ?_⟩
        rw [hnx]
        refine .inr ⟨t, by simp [avs], ?_⟩
        rw [List.getElem?_set_self (by simp; omega)]
        simp
    · have : j = by'.length := by omega
      subst this
      rw [List.take_length, ← hκi a hla] at hgb
      obtain ⟨own, hgb⟩ := hgb.own
      have hka := hk a
      have hkl : (κ a).length ≤ 40 := by rw [hκi a hla]; unfold colsR; simp; exact hb
      have kkey := T_rowKey (κ a) hkl hka.1 hka.2
      have hg' := hg.app (J := J)
      rw [← g7] at hg'
      have hmx : (H ++ J)[0]? = some (.mp (mpA AV.str natA (esG (fun i => keyR (κ i)) 0 (rsA (rhoK κ) a))) (some 0)) := by rw [List.getElem?_append_left (List.getElem?_eq_some_iff.1 hm).1]; exact hm
      obtain ⟨M, hM⟩ : ∃ M, M = H ++ J := ⟨_, rfl⟩
      rw [← hM] at hg' hmx ⊢
      simp [g1, g2, g8, g9, g10, g18, g19, g20, g25, g26, g27, hgb]
      refine TS.callW kkey (.cons (.sl (Dws.self (by simp))) .nil) ?_
      clear hg hm g7 h1 h2 h8 h18 h19 h20
      have hM0 : 0 < M.length := (List.getElem?_eq_some_iff.1 hmx).1
      by_cases hnew : rhoK κ a = a
      · have n1 : csA (rhoK κ) (a + 1) = csA (rhoK κ) a ++ [[a]] := csA_new (fun k hk => rhoK_le k) hnew
        have n2 : rsA (rhoK κ) (a + 1) = rsA (rhoK κ) a ++ [a] := by rw [rsA_succ, if_pos hnew]
        have hget : getL (keyR (κ a)) (esG (fun i => keyR (κ i)) 0 (rsA (rhoK κ) a)) = none := esG_none fun r hr he => by
          have hr2 := mem_rsA.1 hr
          have e2 := rhoK_eq (κ := κ) (hinj a r he)
          rw [hnew, hr2.2] at e2
          omega
        have hrl : (rsA (rhoK κ) a).length = L.length := by rw [← csA_length, ← hL, List.length_map]
        have hput' : putK (.str (keyR (κ a))) (.int .i64 (L.length : Int)) (mpA AV.str natA (esG (fun i => keyR (κ i)) 0 (rsA (rhoK κ) a))) = mpA AV.str natA (esG (fun i => keyR (κ i)) 0 (rsA (rhoK κ) (a + 1))) := by
          have := putK_mpA (kf := AV.str) (g := natA) (k := keyR (κ a)) (v := L.length) (l := esG (fun i => keyR (κ i)) 0 (rsA (rhoK κ) a))
          rw [putL_none hget] at this
          rw [n2, esG_append, Nat.zero_add, hrl]
          exact this
        have hLn : ∀ t, (L ++ [(Own.tok t, [a])]).map Prod.snd = csA (rhoK κ) (a + 1) := fun t => by rw [List.map_append, hL, n1]; rfl
        have hl1 : L.length ≤ a := by rw [← hrl]; exact Nat.le_trans (List.length_filter_le _ _) (by simp)
        rcases hg' with ⟨rfl, hx⟩ | ⟨r, hLn0, hx, hrow, htk⟩
        · simp at hput'
          simp [g1, g2, g8, g9, g10, g18, g19, g20, g25, g26, g27, hgb, hmx, keys_str, found_mpA, hget, hx, hput', -foundV]
          refine ⟨a + 1, by omega, ew, by omega, [(Own.tok (M.length + 1), [a])], .inr ⟨M.length, by simp, rfl, ?_, ?_⟩, hLn _, ?_⟩
          · rw [List.getElem?_append_right (by simp)]
            simp [oslA]
          · have h1 := (Toks.push (H := M.set 0 (HO.mp (mpA AV.str natA (esG (fun i => keyR (κ i)) 0 (rsA (rhoK κ) (a + 1)))) (some 0)) ++ [HO.row 1 1 [.sl (Own.tok (M.length + 1)) [.int .i64 (a : Int)]]]) (L := []) (t := M.length + 1) (c := [a]) (Toks.nil _) (by simp) rfl)
            simpa using h1
          · unfold MapAt
            rw [List.getElem?_append_left (by simpa using hM0), List.getElem?_set_self hM0]
        · have hrM := (List.getElem?_eq_some_iff.1 hrow).1
          have hr0 : ¬ 0 = r := by rintro rfl; rw [hmx] at hrow; cases hrow
          have hr1 : ∀ y, (M.set 0 y)[r]? = some (.row L.length 1 (avs (oslA natA) L)) := fun y => by rw [List.getElem?_set_ne hr0]; exact hrow
          have hr2 : ∀ y z, ((M.set 0 y).set r z)[r]? = some z := fun y z => List.getElem?_set_self (by simpa using hrM)
          have hr3 : ∀ y z w, ((M.set 0 y).set r z ++ [w])[r]? = some z := fun y z w => by rw [List.getElem?_append_left (by simpa using hrM)]; exact hr2 y z
          simp [g1, g2, g8, g9, g10, g18, g19, g20, g25, g26, g27, hgb, hmx, keys_str, found_mpA, hget, hx, hrow, hput', hr1, hr2, hr3, -foundV]
          refine ⟨by omega, by omega, a + 1, by omega, ew, by omega, L ++ [(Own.tok M.length, [a])], .inr ⟨r, by simp [hLn0], by simp, ?_, ?_⟩, hLn _, ?_⟩
          · rw [List.getElem?_set_self (by simp; omega)]
            simp [avs, oslA]
          · exact Toks.other (Toks.push (Toks.other (Toks.other htk hmx (fun n => by simp)) (hr1 _) (fun n => by simp)) (by simp) rfl) (hr3 _ _ _) (fun n => by simp)
          · unfold MapAt
            rw [List.getElem?_set_ne (fun h => hr0 h.symm), List.getElem?_append_left (by simpa using hM0), List.getElem?_set_ne (fun h => hr0 h.symm), List.getElem?_set_self hM0]
      · obtain ⟨j, hj⟩ := rsA_root (rhoK_le (κ := κ) a) (rhoK_idem a) hnew
        obtain ⟨n1, c2⟩ := csA_old hnew hj
        have n2 : rsA (rhoK κ) (a + 1) = rsA (rhoK κ) a := by rw [rsA_succ, if_neg hnew]
        have hget : getL (keyR (κ a)) (esG (fun i => keyR (κ i)) 0 (rsA (rhoK κ) a)) = some (0 + j) := by
          have := esG_some (kf := fun i => keyR (κ i)) (j := 0) (rs := rsA (rhoK κ) a) (fun x y hx hy h => rsA_inj hx hy (hinj x y h)) rsA_nodup hj
          rwa [rhoK_same (κ := κ)] at this
        rw [Nat.zero_add] at hget
        have hcl : (clA (rhoK κ) a (rhoK κ a)).length ≤ a := Nat.le_trans (List.length_filter_le _ _) (by simp)
        rw [← hL] at c2
        obtain ⟨o, hLj⟩ : ∃ o, L[j]? = some (o, clA (rhoK κ) a (rhoK κ a)) := by
          rw [List.getElem?_map] at c2
          cases hq : L[j]? with
          | none => rw [hq] at c2; cases c2
          | some p => rw [hq] at c2; obtain ⟨o, c⟩ := p; simp at c2; exact ⟨o, by rw [c2]⟩
        have hjl := (List.getElem?_eq_some_iff.1 hLj).1
        rcases hg' with ⟨rfl, hx⟩ | ⟨r, hLn0, hx, hrow, htk⟩
        · cases hLj
        have hLj' : ∀ q : j < L.length, L[j] = (o, clA (rhoK κ) a (rhoK κ a)) := fun q => by rw [List.getElem?_eq_getElem q] at hLj; exact Option.some.inj hLj
        have hrM := (List.getElem?_eq_some_iff.1 hrow).1
        rcases htk.own j o _ hLj with ⟨t, rfl⟩ | rfl
        · have hsp := htk.at' j t _ hLj
          have htM := (List.getElem?_eq_some_iff.1 hsp).1
          have htr : ¬ t = r := by rintro rfl; rw [hsp] at hrow; cases hrow
          have hr1 : ∀ y, (M.set t y)[r]? = some (.row L.length 1 (avs (oslA natA) L)) := fun y => by rw [List.getElem?_set_ne htr]; exact hrow
          simp [g1, g2, g8, g9, g10, g18, g19, g20, g25, g26, g27, hgb, hmx, keys_str, found_mpA, hget, hx, hrow, hjl, hLj', hsp, hr1, oslA, -foundV]
          refine ⟨by omega, by omega, a + 1, by omega, ew, by omega, L.set j (.tok t, clA (rhoK κ) a (rhoK κ a) ++ [a]), .inr ⟨r, by simp [hLn0], by simp, ?_, ?_⟩, ?_, ?_⟩
          · rw [List.getElem?_set_self (by simpa using hrM), avs_put hjl, List.length_set]
          · exact Toks.other (Toks.grow htk hLj (by simp)) (hr1 _) (fun n => by simp)
          · rw [List.map_set, hL, n1]
          · unfold MapAt
            have h0t : ¬ t = 0 := by rintro rfl; rw [hmx] at hsp; cases hsp
            have h0r : ¬ r = 0 := by rintro rfl; rw [hmx] at hrow; cases hrow
            rw [List.getElem?_set_ne h0r, List.getElem?_set_ne h0t, n2]
            exact hmx
        · have hr1 : ∀ y, (M ++ [y])[r]? = some (.row L.length 1 (avs (oslA natA) L)) := fun y => by rw [List.getElem?_append_left hrM]; exact hrow
          simp [g1, g2, g8, g9, g10, g18, g19, g20, g25, g26, g27, hgb, hmx, keys_str, found_mpA, hget, hx, hrow, hjl, hLj', hr1, oslA, -foundV]
          refine ⟨by omega, by omega, a + 1, by omega, ew, by omega, L.set j (.tok M.length, clA (rhoK κ) a (rhoK κ a) ++ [a]), .inr ⟨r, by simp [hLn0], by simp, ?_, ?_⟩, ?_, ?_⟩
          · rw [List.getElem?_set_self (by simp; omega), avs_put hjl, List.length_set]
          · exact Toks.other (Toks.fresh htk rfl hjl (by simp)) (hr1 _) (fun n => by simp)
          · rw [List.map_set, hL, n1]
          · unfold MapAt
            have h0r : ¬ r = 0 := by rintro rfl; rw [hmx] at hrow; cases hrow
            rw [List.getElem?_set_ne h0r, List.getElem?_append_left hM0, n2]
            exact hmx
  · have : a = n := by omega
    subst this
    have hLl : L.length = (rsA (rhoK κ) a).length := by rw [← csA_length, ← hL, List.length_map]
    have hz : L = [] ↔ E = [] := by
      constructor
      · rintro rfl
        cases E with
        | nil => rfl
        | cons x E =>
          have h0 : (0 : Nat) ∈ rsA (rhoK κ) a := mem_rsA.2 ⟨by simp at hn; omega, by have := rhoK_le (κ := κ) 0; omega⟩
          rw [List.eq_nil_of_length_eq_zero hLl.symm] at h0
          cases h0
      · rintro rfl
        simp at hn
        subst hn
        have : rsA (rhoK κ) 0 = [] := rfl
        rw [this] at hLl
        exact List.eq_nil_of_length_eq_zero hLl
    rcases hg with ⟨rfl, hx⟩ | ⟨r, hLn0, hx, hrow, htk⟩
    · have hE0 := hz.1 rfl
      by_cases hc : by' = [] ∧ all = true
      · obtain ⟨rfl, rfl⟩ := hc
        simp [h1, h2, h8, h18, h19, h20, hx, hE0]
        exact Frz.slosl (l := [(Own.nil, [])]) (m := [[]]) rfl
      · have : ¬ (E = [] ∧ by' = [] ∧ all = true) := fun h => hc h.2
        rw [if_neg this]
        have hcs : csA (rhoK κ) a = [] := by rw [← hL]; rfl
        rw [hcs]
        simp [h1, h2, h8, h18, h19, h20, hx]
        refine condK_of (fun c => absurd (by simpa using c) hc) (fun _ => ?_)
        simp [h1, h2, h8, h18, h19, h20, hx]
        exact Frz.slN (f := slA natA) (l := [])
    · have hLn := hLn0
      have : ¬ (E = [] ∧ by' = [] ∧ all = true) := fun h => hLn (hz.2 h.1)
      rw [if_neg this]
      simp [h1, h2, h8, h18, h19, h20, hx, hLn]
      exact Frz.mvosl hrow rfl hL
theorem T_together (a b : List (List Val)) (by' : List Ex') (hl : by'.length ≤ 40) : T Tryd.prog 39 [.sl .no (rows' a), .sl .no (rows' b), .sl .no (exprs by')] (.bool (decide (colsR a by' = colsR b by'))) := by
  refine T.intro (TS.body mix Tryd.func39 (by kernel_rfl) rfl (by kernel_rfl) (by simp) ?_)
  simp
  refine vc_loop (fun i : Nat => by'.length - i) (fun i e H => e 0 = .sl .no (rows' a) ∧ e 1 = .sl .no (rows' b) ∧ e 2 = .sl .no (exprs by') ∧ e 7 = .int .i64 i ∧ i ≤ by'.length ∧ colsR a (by'.take i) = colsR b (by'.take i)) 0 ?_ ?_
  · simp [colsR]
  rintro i e H ⟨h0, h1, h2, h7, hi, heq⟩
  by_cases hlt : i < by'.length
  · have ew := wrap_next hlt (by omega)
    simp [h0, h1, h2, h7, hlt]
    refine TDK.callW (T_rat a by'[i].t by'[i].c) (Dws.self (by simp)) ?_
    simp [h0, h1, h2, h7, hlt]
    refine TDK.callW (T_rat b by'[i].t by'[i].c) (Dws.self (by simp)) ?_
    simp [h0, h1, h2, h7, hlt]
    refine TDK.callW (T_rsame (atV a by'[i].t by'[i].c) (atV b by'[i].t by'[i].c)) (Dws.self (by simp)) ?_
    simp [h0, h1, h2, h7, hlt]
    refine condK_of (fun c => ?_) (fun c => ?_)
    · have hne : ¬ colsR a by' = colsR b by' := by
        intro h
        have h2 := congrArg (fun l => l[i]?) h
        simp [colsR, hlt] at h2
        simp [h2] at c
      simp [h0, h1, h2, h7, hlt, hne]
    · have heq2 : atV a by'[i].t by'[i].c = atV b by'[i].t by'[i].c := by
        cases hx : atV a by'[i].t by'[i].c; cases hy : atV b by'[i].t by'[i].c
        rw [hx, hy] at c
        simpa using c
      simp [h0, h1, h2, h7, hlt]
      exact ⟨i + 1, by omega, ew, by omega, by rw [colsR_next hlt, colsR_next hlt, heq, heq2]⟩
  · have : i = by'.length := by omega
    subst this
    rw [List.take_length] at heq
    simp [h0, h1, h2, h7, heq]
theorem clA_head {ρ : Nat → Nat} (hle : ∀ k, ρ k ≤ k) : ∀ {a r : Nat}, r < a → ρ r = r → ∃ t, clA ρ a r = r :: t := by
  intro a
  induction a with
  | zero => intro r h; omega
  | succ a ih =>
    intro r h hr
    rw [clA_succ]
    by_cases e : r < a
    · obtain ⟨t, ht⟩ := ih e hr
      split
      · exact ⟨_, by rw [ht]; rfl⟩
      · exact ⟨_, ht⟩
    · obtain rfl : r = a := by omega
      rw [if_pos hr, clA_start (fun k _ => hle k)]
      exact ⟨[], rfl⟩
set_option maxRecDepth 4000 in
theorem T_rgroups (E : List (List (List Val))) (by' : List Ex') (all : Bool) (hE : E.length ≤ 1000) (hb : by'.length ≤ 40) :
    T Tryd.prog 12 [env3 E, .sl .no (exprs by'), .bool all] (slA (slA natA) (if E = [] ∧ by' = [] ∧ all = true then [[]] else csA (rhoK (kapK E by')) E.length)) := by
  obtain ⟨n, hn⟩ : ∃ n, E.length = n := ⟨_, rfl⟩
  obtain ⟨κ, hκ⟩ : ∃ κ, kapK E by' = κ := ⟨_, rfl⟩
  have hκi : ∀ i (h : i < E.length), κ i = colsR E[i] by' := fun i h => by rw [← hκ]; unfold kapK; rw [List.getD_eq_getElem?_getD, List.getElem?_eq_getElem h]; rfl
  rw [hκ]
  rw [hn] at hE ⊢
  refine T.introF (TS.bodyM [58] mix Tryd.func12 (by kernel_rfl) rfl (by kernel_rfl) (by simp) ?_)
  simp
  refine vc_loop (fun a : Nat => n - a) (fun a e H => ∃ L : List (Own × List Nat), e 0 = env3 E ∧ e 1 = .sl .no (exprs by') ∧ e 2 = .bool all ∧ e 8 = .int .i64 a ∧ a ≤ n ∧ GS H (e 7) L ∧ L.map Prod.snd = csA (rhoK κ) a) 0 ?_ ?_
  · exact ⟨[], by simp [GS, csA, rsA, hn]⟩
  rintro a e H ⟨L, h0, h1, h2, h8, ha, hg, hL⟩
  have hLl : L.length = (rsA (rhoK κ) a).length := by rw [← csA_length, ← hL, List.length_map]
  have hl1 : L.length ≤ a := by rw [hLl]; exact Nat.le_trans (List.length_filter_le _ _) (by simp)
  by_cases hlt : a < n
  · have ew := wrap_next hlt (by omega)
    have hla : a < E.length := by omega
    have hgr : ∀ k (h : k < L.length), ∃ t, L[k].2 = (rsA (rhoK κ) a)[k]'(by omega) :: t ∧ (rsA (rhoK κ) a)[k]'(by omega) < a := fun k h => by
      have hm := List.getElem_mem (l := rsA (rhoK κ) a) (n := k) (by omega)
      have h2 := mem_rsA.1 hm
      obtain ⟨t, ht⟩ := clA_head (ρ := rhoK κ) (fun k => rhoK_le k) h2.1 h2.2
      refine ⟨t, ?_, h2.1⟩
      rw [← ht]
      have h3 : (L.map Prod.snd)[k]? = (csA (rhoK κ) a)[k]? := by rw [hL]
      unfold csA at h3
      rw [List.getElem?_map, List.getElem?_map, List.getElem?_eq_getElem h, List.getElem?_eq_getElem (by omega)] at h3
      simpa using h3
    simp [h0, h1, h2, h8, hlt, hn]
    refine vc_loop (fun k : Nat => L.length + 1 - k) (fun k e' H' => e' 0 = env3 E ∧ e' 1 = .sl .no (exprs by') ∧ e' 2 = .bool all ∧ e' 8 = .int .i64 a ∧ k ≤ L.length + 1 ∧ ((e' 9 = .bool false ∧ e' 10 = .int .i64 k ∧ k ≤ L.length ∧ e' 7 = e 7 ∧ H' = H ∧ ∀ q (h : q < (rsA (rhoK κ) a).length), q < k → κ ((rsA (rhoK κ) a)[q]) ≠ κ a) ∨ (e' 9 = .bool true ∧ k = L.length + 1 ∧ (∃ q : Nat, e' 10 = .int .i64 q ∧ q ≤ 1000) ∧ rhoK κ a ≠ a ∧ ∃ L', GS H' (e' 7) L' ∧ L'.map Prod.snd = csA (rhoK κ) (a + 1)))) 0 ?_ ?_
    · simp [h0, h1, h2, h8, hn]
    rintro k e' H' ⟨g0, g1, g2, g8, hk, hcs⟩
    rcases hcs with ⟨g9, g10, hkL, g7, rfl, hno⟩ | ⟨g9, rfl, ⟨q, g10, hq⟩, hnr, L', hg', hL'⟩
    · rcases hg with ⟨rfl, hx⟩ | ⟨r, hLn0, hx, hrow, htk⟩
      · simp at hkL
        subst hkL
        have hr0 : rsA (rhoK κ) a = [] := List.eq_nil_of_length_eq_zero hLl.symm
        have hnew : rhoK κ a = a := by
          rcases Decidable.em (rhoK κ a = a) with c | c
          · exact c
          · obtain ⟨j, hj⟩ := rsA_root (rhoK_le (κ := κ) a) (rhoK_idem a) c
            rw [hr0] at hj; cases hj
        have n1 : csA (rhoK κ) (a + 1) = csA (rhoK κ) a ++ [[a]] := csA_new (fun k hk => rhoK_le k) hnew
        simp [g0, g1, g2, g8, g9, g10, g7, hx]
        refine ⟨a + 1, by omega, ew, by omega, [(Own.exact, [a])], .inr ⟨H'.length, by simp, rfl, ?_, ?_⟩, by rw [n1, ← hL]; rfl⟩
        · simp [oslA]
        · exact Toks.one _ _
      · by_cases hkl : k < L.length
        · obtain ⟨t, ht, hta⟩ := hgr k hkl
          generalize hrk : (rsA (rhoK κ) a)[k]'(by omega) = rk at *
          have ktog := T_together (E[rk]'(by omega)) E[a] by' hb
          rw [← hκi _ (by omega), ← hκi _ hla] at ktog
          have hrE : rk < E.length := by omega
          simp [g0, g1, g2, g8, g9, g10, g7, hx, hrow, hkl, oslA, ht, hla, hrE]
          refine TDK.callW ktog (Dws.self (by simp)) ?_
          by_cases hkk : κ rk = κ a
          · have hrm : rk ∈ rsA (rhoK κ) a := by rw [← hrk]; exact List.getElem_mem _
            have hrr := mem_rsA.1 hrm
            have hra : rhoK κ a = rk := by rw [← rhoK_eq hkk]; exact hrr.2
            have hnew : rhoK κ a ≠ a := by omega
            obtain ⟨n1, c2⟩ := csA_old (ρ := rhoK κ) (a := a) (j := k) hnew (by rw [hra, ← hrk]; exact List.getElem?_eq_getElem _)
            have hcl : (clA (rhoK κ) a (rhoK κ a)).length ≤ a := Nat.le_trans (List.length_filter_le _ _) (by simp)
            have hLk : L[k].2 = clA (rhoK κ) a (rhoK κ a) := by
              rw [← hL, List.getElem?_map, List.getElem?_eq_getElem hkl] at c2
              simpa using c2
            have hLkk : L[k]? = some (L[k].1, clA (rhoK κ) a (rhoK κ a)) := by rw [List.getElem?_eq_getElem hkl, ← hLk]
            have hrM := (List.getElem?_eq_some_iff.1 hrow).1
            have hrt : (rk :: t) = clA (rhoK κ) a (rhoK κ a) := by rw [← hLk, ht]
            rcases htk.own k _ _ hLkk with ⟨u, hu⟩ | hu
            · have hLk' : L[k] = (.tok u, clA (rhoK κ) a (rhoK κ a)) := by rw [← hLk, ← hu]
              rw [hu] at hLkk
              have hsp := htk.at' k u _ hLkk
              have hur : ¬ u = r := by rintro rfl; rw [hsp] at hrow; cases hrow
              have hr1 : ∀ y, (H'.set u y)[r]? = some (.row L.length 1 (avs (oslA natA) L)) := fun y => by rw [List.getElem?_set_ne hur]; exact hrow
              simp [g0, g1, g2, g8, g9, g10, g7, hx, hrow, hkl, oslA, hLk', hkk, hsp, hr1]
              refine ⟨by omega, by omega, L.length + 1, by omega, by omega, rfl, ⟨k + 1, wrap_next hkl (by omega), by omega⟩, hnew, L.set k (.tok u, clA (rhoK κ) a (rhoK κ a) ++ [a]), .inr ⟨r, by simp [hLn0], by simp, ?_, ?_⟩, ?_⟩
              · rw [List.getElem?_set_self (by simpa using hrM), avs_put hkl, List.length_set]
              · exact Toks.other (Toks.grow htk hLkk (by simp)) (hr1 _) (fun n => by simp)
              · rw [List.map_set, hL, n1]
            · have hLk' : L[k] = (.exact, clA (rhoK κ) a (rhoK κ a)) := by rw [← hLk, ← hu]
              have hr1 : ∀ y, (H' ++ [y])[r]? = some (.row L.length 1 (avs (oslA natA) L)) := fun y => by rw [List.getElem?_append_left hrM]; exact hrow
              simp [g0, g1, g2, g8, g9, g10, g7, hx, hrow, hkl, oslA, hLk', hkk, hr1]
              refine ⟨by omega, by omega, L.length + 1, by omega, by omega, rfl, ⟨k + 1, wrap_next hkl (by omega), by omega⟩, hnew, L.set k (.tok H'.length, clA (rhoK κ) a (rhoK κ a) ++ [a]), .inr ⟨r, by simp [hLn0], by simp, ?_, ?_⟩, ?_⟩
              · rw [List.getElem?_set_self (by simp; omega), avs_put hkl, List.length_set]
              · exact Toks.other (Toks.fresh htk rfl hkl (by simp)) (hr1 _) (fun n => by simp)
              · rw [List.map_set, hL, n1]
          · simp [g0, g1, g2, g8, g9, g10, g7, hx, hrow, hkl, oslA, hkk]
            refine ⟨k + 1, by omega, by omega, wrap_next hkl (by omega), by omega, fun q hq hqk => ?_⟩
            by_cases hqk2 : q = k
            · subst hqk2; rw [hrk]; exact hkk
            · exact hno q hq (by omega)
        · have : k = L.length := by omega
          subst this
          have hnew : rhoK κ a = a := by
            rcases Decidable.em (rhoK κ a = a) with c | c
            · exact c
            · obtain ⟨j, hj⟩ := rsA_root (rhoK_le (κ := κ) a) (rhoK_idem a) c
              have hjl := (List.getElem?_eq_some_iff.1 hj).1
              have := hno j hjl (by omega)
              rw [List.getElem?_eq_getElem hjl] at hj
              rw [Option.some.inj hj] at this
              exact absurd (rhoK_same a) this
          have n1 : csA (rhoK κ) (a + 1) = csA (rhoK κ) a ++ [[a]] := csA_new (fun k hk => rhoK_le k) hnew
          simp [g0, g1, g2, g8, g9, g10, g7, hx, hrow]
          have hrM := (List.getElem?_eq_some_iff.1 hrow).1
          refine ⟨by omega, a + 1, by omega, ew, by omega, L ++ [(Own.exact, [a])], .inr ⟨r, by simp, by simp, ?_, ?_⟩, by rw [n1, List.map_append, hL]; rfl⟩
          · rw [List.getElem?_set_self hrM]
            simp [avs, oslA]
          · exact Toks.pushX (Toks.other htk hrow (fun n => by simp))
    · have hx : e' 7 = .sl .nil [] ∨ ∃ r m, e' 7 = .mv r m 1 0 m := by
        rcases hg' with ⟨_, h⟩ | ⟨r, _, h, _⟩
        · exact .inl h
        · exact .inr ⟨_, _, h⟩
      have fin : ∀ q' : Nat, True := fun _ => trivial
      rcases hx with hx | ⟨r, m, hx⟩
      · simp [g0, g1, g2, g8, g9, g10, hx]
        rw [hx] at hg'
        exact ⟨a + 1, by omega, ew, by omega, L', hg', hL'⟩
      · by_cases hqm : q < m
        · simp [g0, g1, g2, g8, g9, g10, hx, hqm]
          rw [hx] at hg'
          exact ⟨a + 1, by omega, ew, by omega, L', hg', hL'⟩
        · simp [g0, g1, g2, g8, g9, g10, hx, hqm]
          rw [hx] at hg'
          exact ⟨a + 1, by omega, ew, by omega, L', hg', hL'⟩
  · have : a = n := by omega
    subst this
    have hz : L = [] ↔ E = [] := by
      constructor
      · rintro rfl
        cases E with
        | nil => rfl
        | cons x E =>
          have h0 : (0 : Nat) ∈ rsA (rhoK κ) a := mem_rsA.2 ⟨by simp at hn; omega, by have := rhoK_le (κ := κ) 0; omega⟩
          rw [List.eq_nil_of_length_eq_zero hLl.symm] at h0
          cases h0
      · rintro rfl
        simp at hn
        subst hn
        have : rsA (rhoK κ) 0 = [] := rfl
        rw [this] at hLl
        exact List.eq_nil_of_length_eq_zero hLl
    rcases hg with ⟨rfl, hx⟩ | ⟨r, hLn0, hx, hrow, htk⟩
    · have hE0 := hz.1 rfl
      by_cases hc : by' = [] ∧ all = true
      · obtain ⟨rfl, rfl⟩ := hc
        obtain rfl : a = 0 := by rw [hE0] at hn; simpa using hn.symm
        simp [h0, h1, h2, h8, hx, hE0]
        exact Frz.slosl (l := [(Own.exact, [])]) (m := [[]]) rfl
      · have : ¬ (E = [] ∧ by' = [] ∧ all = true) := fun h => hc h.2
        rw [if_neg this]
        have hcs : csA (rhoK κ) a = [] := by rw [← hL]; rfl
        rw [hcs]
        simp [h0, h1, h2, h8, hx, hn]
        refine condK_of (fun c => absurd (by simpa using c) hc) (fun _ => ?_)
        simp [h0, h1, h2, h8, hx, hn]
        exact Frz.slN (f := slA natA) (l := [])
    · have : ¬ (E = [] ∧ by' = [] ∧ all = true) := fun h => hLn0 (hz.2 h.1)
      rw [if_neg this]
      simp [h0, h1, h2, h8, hx, hLn0, hn]
      exact Frz.mvosl hrow rfl hL
def EnvOk (E : List (List (List Val))) : Prop := E.length < 4611686018427387904 ∧ ∀ e, e ∈ E → RowsOk e
def right3 (E : List (List (List Val))) : Bool := E.all fun e => e.all fun r => r.all rightV
theorem all_take {α : Type} {q : α → Bool} {l : List α} {i : Nat} (h : i < l.length) (hq : q l[i] = false) : l.all q = false := List.all_eq_false.2 ⟨_, List.getElem_mem h, by simp [hq]⟩
theorem all_next {α : Type} {q : α → Bool} {l : List α} {i : Nat} (h : i < l.length) (h0 : (l.take i).all q = true) (hq : q l[i] = true) : (l.take (i + 1)).all q = true := by rw [take_next h, List.all_append, h0]; simp [hq]
theorem T_right14 (E : List (List (List Val))) (hE : EnvOk E) : T Tryd.prog 8 [env3 E] (.bool (right3 E)) := by
  have hl := hE.1
  refine T.intro (TS.body mix Tryd.func8 (by kernel_rfl) rfl (by kernel_rfl) (by simp) ?_)
  simp
  refine vc_loop (fun i : Nat => E.length - i) (fun i e H => e 0 = env3 E ∧ e 3 = .int .i64 i ∧ i ≤ E.length ∧ (E.take i).all (fun e => e.all fun r => r.all rightV) = true) 0 ?_ ?_
  · simp
  rintro i e H ⟨h0, h3, hi, hr⟩
  by_cases hlt : i < E.length
  · have ew := wrap_next hlt (by omega)
    have hok := hE.2 E[i] (List.getElem_mem hlt)
    have hok1 := hok.len
    simp [h0, h3, hlt]
    refine vc_loop (fun k : Nat => E[i].length - k) (fun k e H => e 0 = env3 E ∧ e 3 = .int .i64 i ∧ e 4 = .int .i64 k ∧ k ≤ E[i].length ∧ (E[i].take k).all (fun r => r.all rightV) = true) 0 ?_ ?_
    · simp [h0, h3]
    clear h0 h3 e
    rintro k e H ⟨h0, h3, h4, hk, hr2⟩
    by_cases hlk : k < E[i].length
    · have ewk := wrap_next hlk (by omega)
      have hrl := hok.row E[i][k] (List.getElem_mem hlk)
      simp [h0, h3, h4, hlt, hlk]
      refine vc_loop (fun j : Nat => E[i][k].length - j) (fun j e H => e 0 = env3 E ∧ e 3 = .int .i64 i ∧ e 4 = .int .i64 k ∧ e 5 = .int .i64 j ∧ j ≤ E[i][k].length ∧ (E[i][k].take j).all rightV = true) 0 ?_ ?_
      · simp [h0, h3, h4]
      clear h0 h3 h4 e
      rintro j e H ⟨h0, h3, h4, h5, hj, hr3⟩
      by_cases hlj : j < E[i][k].length
      · have ewj := wrap_next hlj (by omega)
        simp [h0, h3, h4, h5, hlt, hlk, hlj]
        refine TS.callW (T_rright E[i][k][j]) (Dws.self (by simp)) ?_
        cases hR : rightV E[i][k][j] with
        | false =>
          have e1 := all_take hlj hR
          have e2 := all_take (q := fun r => r.all rightV) hlk e1
          have e3 := all_take (q := fun e => e.all fun r => r.all rightV) hlt e2
          simp [h0, h3, h4, h5, hlt, hlk, hlj]
          exact e3
        | true =>
          simp [h0, h3, h4, h5, hlt, hlk, hlj]
          exact ⟨j + 1, by omega, ewj, by omega, by simpa using all_next hlj hr3 hR⟩
      · have : j = E[i][k].length := by omega
        subst this
        rw [List.take_length] at hr3
        simp [h0, h3, h4, h5, hlt, hlk]
        exact ⟨k + 1, by omega, ewk, by omega, by simpa using all_next (q := fun r => r.all rightV) hlk hr2 hr3⟩
    · have : k = E[i].length := by omega
      subst this
      rw [List.take_length] at hr2
      simp [h0, h3, h4, hlt]
      exact ⟨i + 1, by omega, ew, by omega, by simpa using all_next (q := fun e => e.all fun r => r.all rightV) hlt hr hr2⟩
  · have : i = E.length := by omega
    subst this
    rw [List.take_length] at hr
    simp [h0, h3]
    exact hr
theorem in13_eq : ∀ (r : List Val) (n : Int), 0 ≤ n → n + muchN r < 9223372036854775808 → in13 n r = n + muchN r
  | [], n, _, _ => by simp [in13, muchN]
  | v :: r, n, h, hb => by
    have hp := muchN_pos r
    have hm : muchN (v :: r) = 1 + (v.s.size : Int) + muchN r := by simp [muchN]
    rw [hm] at hb
    have e1 : IntKind.i64.wrap (n + 1) = n + 1 := wrap_i64 (by omega) (by omega)
    have e2 : IntKind.i64.wrap (n + 1 + (v.s.size : Int)) = n + 1 + v.s.size := wrap_i64 (by omega) (by omega)
    have h1 : in13 n (v :: r) = in13 (IntKind.i64.wrap (IntKind.i64.wrap (n + 1) + (v.s.size : Int))) r := rfl
    rw [h1, e1, e2, in13_eq r _ (by omega) (by omega), hm]
    omega
theorem m13_no : ∀ {L : List (List Val)} {n : Int}, 0 ≤ n → n ≤ 2000 → (∀ r, r ∈ L → ∀ v, v ∈ r → v.s.size ≤ reachBytes) → m13 L n = false → ∀ r, r ∈ L → r.length ≤ 40 ∧ ∀ v, v ∈ r → v.s.size ≤ 2000
  | [], n, _, _, _, _ => by simp
  | r :: L, n, h0, h1, hv, h => by
    rw [m13] at h
    split at h
    · cases h
    · rename_i hc
      have hlen : r.length ≤ 40 := by omega
      have htk : r.take 50 = r := List.take_of_length_le (by omega)
      rw [htk] at h hc
      have hb := muchN_le (hv r List.mem_cons_self)
      have hrb := reach_lt
      have hmul : (1 + reachBytes : Int) * r.length ≤ (1 + reachBytes : Int) * 40 := Int.mul_le_mul_of_nonneg_left (by omega) (by omega)
      have he := in13_eq r n h0 (by omega)
      have hp := muchN_pos r
      rw [he] at h hc
      intro q hq
      rw [List.mem_cons] at hq
      rcases hq with rfl | hq
      · exact ⟨hlen, fun v hv' => by have := muchN_mem hv'; omega⟩
      · exact m13_no (by omega) (by omega) (fun r hr => hv r (List.mem_cons_of_mem _ hr)) h q hq
theorem much13_no {L : List (List Val)} (hv : RowsOk L) (h : much13 L = false) : ∀ r, r ∈ L → r.length ≤ 40 ∧ ∀ v, v ∈ r → v.s.size ≤ 2000 := by
  unfold much13 at h
  simp at h
  rw [List.take_of_length_le (by omega)] at h
  exact m13_no (Int.le_refl _) (by omega) (fun r hr v hv' => (hv.val r hr v hv').2.2) h.1
theorem atV_mem {e : List (List Val)} (t c : Int) : atV e t c = zV ∨ ∃ r, r ∈ e ∧ atV e t c ∈ r := by
  unfold atV
  split
  · rw [List.getD_eq_getElem?_getD, List.getD_eq_getElem?_getD]
    cases h1 : e[t.toNat]? with
    | none => left; simp
    | some r =>
      simp only [Option.getD_some]
      cases h2 : r[c.toNat]? with
      | none => left; rfl
      | some v => exact .inr ⟨r, List.mem_of_getElem? h1, List.mem_of_getElem? h2⟩
  · exact .inl rfl
theorem kap_mem {E : List (List (List Val))} {by' : List Ex'} {i : Nat} {v : Val} (h : v ∈ kapK E by' i) : v = zV ∨ ∃ e, e ∈ E ∧ ∃ r, r ∈ e ∧ v ∈ r := by
  unfold kapK colsR at h
  rw [List.mem_map] at h
  obtain ⟨x, _, rfl⟩ := h
  rw [List.getD_eq_getElem?_getD]
  cases hE : E[i]? with
  | none =>
    left
    simp [atV]
  | some e =>
    simp only [Option.getD_some]
    rcases atV_mem (e := e) x.t x.c with h | ⟨r, h1, h2⟩
    · exact .inl h
    · exact .inr ⟨e, List.mem_of_getElem? hE, r, h1, h2⟩
def zE : Ex' := .mk 0 ByteArray.empty ByteArray.empty 0 0 zV []
def grpQ (by' : List Ex') : Qry := ⟨[], [], zE, by'⟩
theorem ok_zE : OkE zE := .mk (by simp [zE]) (by simpa [zE] using zV_in) (by decide) (by decide) (by simp [zE])
theorem ok_grpQ {by' : List Ex'} (h : OkL by') : OkQ (grpQ by') := ⟨⟨by simp [grpQ], by simp [grpQ]⟩, by simp [grpQ], by simp [grpQ], ok_zE, h⟩
set_option maxRecDepth 4000 in
theorem T_AggGroups (E : List (List (List Val))) (by' : List Ex') (all : Bool) (hE : EnvOk E) (hb : OkL by') : T Tryd.prog 3 [env3 E, .sl .no (exprs by'), .bool all] (.bool true) := by
  have kq := T_muchQ (grpQ by') (ok_grpQ hb)
  have kr := T_right14 E hE
  have hEl := hE.1
  have hd : Dws [AV.agg [.sl .exact [], .sl .exact [], .int .i64 0, .str ByteArray.empty, .str ByteArray.empty, .int .i64 0, .int .i64 0, .int .i64 0, .int .i64 0, .str ByteArray.empty, .sl .exact [], .sl .no (exprs by')]] [(grpQ by').av] :=
    .cons (.agg (.cons (.sl .nil) (.cons (.sl .nil) (.cons (.self (by simp)) (.cons (.self (by simp)) (.cons (.self (by simp)) (.cons (.self (by simp)) (.cons (.self (by simp)) (.cons (.self (by simp)) (.cons (.self (by simp)) (.cons (.self (by simp)) (.cons (.sl .nil) (.cons (.self (by simp)) .nil))))))))))))) .nil
  refine T.intro (TS.body mix Tryd.func3 (by kernel_rfl) rfl (by kernel_rfl) (by simp) ?_)
  simp
  by_cases h20 : (20 : Int) < E.length
  · simp [h20]
    refine GTK.callW (fun h => nomatch h) (ys := []) (r := .bool true) ?_
    simp [h20]
    refine GTK.callW (fun h => nomatch h) (ys := []) (r := .bool true) ?_
    simp [h20]
    refine TS.callW T_live14 .nil ?_
    simp
  simp [h20]
  refine GTK.callW (fun _ => ⟨kq, hd⟩) ?_
  cases hq : muchQ (grpQ by') with
  | true =>
    simp [h20]
    refine GTK.callW (fun h => nomatch h) (ys := []) (r := .bool true) ?_
    simp [h20]
    refine TS.callW T_live14 .nil ?_
    simp
  | false =>
  simp [h20]
  refine GTK.callW (fun _ => ⟨kr, Dws.self (by simp)⟩) ?_
  cases hr : right3 E with
  | false =>
    simp [h20]
    refine TS.callW T_live14 .nil ?_
    simp
  | true =>
  simp [h20]
  refine vc_loop (fun i : Nat => E.length - i) (fun i e H => e 0 = env3 E ∧ e 1 = .sl .no (exprs by') ∧ e 2 = .bool all ∧ e 7 = .int .i64 i ∧ i ≤ E.length ∧ (E.take i).any much13 = false) 0 ?_ ?_
  · simp
  rintro i e H ⟨h0, h1, h2, h7, hi, hm⟩
  by_cases hlt : i < E.length
  · have ew := wrap_next hlt (by omega)
    have k13 := T_much13 E[i] (hE.2 E[i] (List.getElem_mem hlt)).len
    simp [h0, h1, h2, h7, hlt]
    refine TS.callW k13 (Dws.self (by simp)) ?_
    cases hc : much13 E[i] with
    | true =>
      simp [h0, h1, h2, h7, hlt]
      refine TS.callW T_live14 .nil ?_
      simp
    | false =>
      simp [h0, h1, h2, h7, hlt]
      exact ⟨i + 1, by omega, ew, by omega, by simpa using any_next hlt hm hc⟩
  have : i = E.length := by omega
  subst this
  rw [List.take_length] at hm
  have hby : by'.length ≤ 12 := by
    unfold muchQ at hq
    simp [grpQ] at hq
    have h12 : decide (12 < by'.length) = false := by first | exact hq.1.1 | exact hq.1
    simpa using h12
  have hm2 : ∀ e, e ∈ E → much13 e = false := fun e he => by
    cases h : much13 e with
    | false => rfl
    | true => rw [List.any_eq_true.2 ⟨e, he, h⟩] at hm; cases hm
  have hv : ∀ i v, v ∈ kapK E by' i → valIn v ∧ v.s.size ≤ 2000 ∧ rightV v = true := fun i v h => by
    rcases kap_mem h with rfl | ⟨e, he, r, hr', hvr⟩
    · exact ⟨zV_in, by decide, by decide⟩
    · refine ⟨(hE.2 e he).val r hr' v hvr, (much13_no (hE.2 e he) (hm2 e he) r hr').2 v hvr, ?_⟩
      unfold right3 at hr
      rw [List.all_eq_true] at hr
      have h2 := hr e he
      rw [List.all_eq_true] at h2
      have h3 := h2 r hr'
      rw [List.all_eq_true] at h3
      exact h3 v hvr
  have k1 := T_groups E by' all (by omega) (by omega) (fun i => ⟨fun v h => (hv i v h).1.2.1, fun v h => (hv i v h).2.1⟩) (fun i j h => keyR_inj (fun v h => (hv i v h).1.2.1) (fun v h => (hv j v h).1.2.1) (fun v h => (hv i v h).2.2) (fun v h => (hv j v h).2.2) h)
  have k2 := T_rgroups E by' all (by omega) (by omega)
  obtain ⟨CS, hCS⟩ : ∃ CS, CS = (if E = [] ∧ by' = [] ∧ all = true then [[]] else csA (rhoK (kapK E by')) E.length) := ⟨_, rfl⟩
  have hCl : CS.length ≤ 1000 ∧ ∀ c, c ∈ CS → c.length ≤ 1000 := by
    rw [hCS]
    split
    · simp
    · refine ⟨?_, fun c hc => ?_⟩
      · rw [csA_length]
        exact Nat.le_trans (List.length_filter_le _ _) (by simp; omega)
      · unfold csA at hc
        rw [List.mem_map] at hc
        obtain ⟨x, _, rfl⟩ := hc
        exact Nat.le_trans (List.length_filter_le _ _) (by simp; omega)
  rw [← hCS] at k1 k2
  simp [h0, h1, h2, h7]
  refine TS.callW k1 (Dws.self (by simp)) ?_
  simp [h0, h1, h2, h7]
  refine TS.callW k2 (Dws.self (by simp)) ?_
  simp [h0, h1, h2, h7]
  clear h0 h1 h2 h7
  refine vc_loop (fun i : Nat => CS.length - i) (fun i e H => e 8 = slA (slA natA) CS ∧ e 9 = slA (slA natA) CS ∧ e 10 = .int .i64 i ∧ i ≤ CS.length) 0 ?_ ?_
  · simp
  rintro i e H ⟨h8, h9, h10, hi⟩
  by_cases hlt2 : i < CS.length
  · have ew := wrap_next hlt2 (by omega)
    have hcl := hCl.2 CS[i] (List.getElem_mem hlt2)
    simp [h8, h9, h10, hlt2]
    refine vc_loop (fun k : Nat => CS[i].length - k) (fun k e H => e 8 = slA (slA natA) CS ∧ e 9 = slA (slA natA) CS ∧ e 10 = .int .i64 i ∧ e 11 = .int .i64 k ∧ k ≤ CS[i].length) 0 ?_ ?_
    · simp [h8, h9, h10]
    clear h8 h9 h10 e
    rintro k e H ⟨h8, h9, h10, h11, hk⟩
    by_cases hlk : k < CS[i].length
    · have ewk := wrap_next hlk (by omega)
      simp [h8, h9, h10, h11, hlt2, hlk]
      exact ⟨k + 1, by omega, ewk, by omega⟩
    · have : k = CS[i].length := by omega
      subst this
      simp [h8, h9, h10, h11, hlt2]
      exact ⟨i + 1, by omega, ew, by omega⟩
  · have : i = CS.length := by omega
    subst this
    simp [h8, h9, h10]
    refine TS.callW T_live14 .nil ?_
    simp
theorem envs_in {cs : List AV} (h : Sh Tryd.prog 22 cs) : ∃ E : List (List (List Val)), cs = [env3 E] ∧ EnvOk E := by
  obtain ⟨ys, rfl, hy, b⟩ := h.sl_of un_22 ag_35
  obtain ⟨l, e1, e2, e3⟩ := list_in (f := fun e => AV.sl .no (rows' e)) (g := mkAV false) (Q := RowsOk) (fun y hy' => by
    obtain ⟨x, h1, h2⟩ := rows_in (hy y hy')
    exact ⟨x, by rw [h1]; rfl, h2⟩)
  have hb : 1 ≤ Tryd.prog.bytesOf 35 := by decide +kernel
  have hr := reach_lt
  have := Nat.mul_le_mul_left ys.length hb
  exact ⟨l, by rw [e1]; rfl, by omega, e3⟩
theorem S_AggGroups {xs : List AV} (h : ShA Tryd.prog [22, 23, 4] xs) : T Tryd.prog 3 xs (.bool true) := by
  obtain ⟨u, r, rfl, h0, h⟩ := h.cons_of ag_22
  obtain ⟨y, r, rfl, h1, h⟩ := h.cons_of ag_23
  obtain ⟨z, r, rfl, h2, h⟩ := h.cons_of ag_4
  obtain rfl := h.nil_of
  obtain ⟨E, rfl, hE⟩ := envs_in h0
  obtain ⟨by', rfl, hb⟩ := exprs_in h1
  obtain ⟨all, rfl⟩ := h2.bool_of un_4
  exact T_AggGroups E by' all hE hb
end Go.Proofs.YtaahlhhpmooliaaDoor.PL
