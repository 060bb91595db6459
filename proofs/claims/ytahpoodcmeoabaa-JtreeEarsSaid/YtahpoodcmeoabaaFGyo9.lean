/- Parents by ears are a join tree; and among all trees there is one just if all edges but one may go. -/
import Derived.Test.YtahpoodcmeoabaaFGyo8
import Derived.Test.YtahpoodcmeoabaaFGyo5
namespace Go.Proofs.Ytahpoodcmeoabaa.PL
open Go.Proofs
set_option linter.unusedVariables false
set_option linter.unusedSimpArgs false
theorem parF_not {es : List (Nat × Nat)} {i : Nat} : ∀ {l : List Int}, (∀ x, x ∈ es → x.1 ≠ i) → (parF es l)[i]? = l[i]? := by
  induction es with
  | nil => intro l _; rfl
  | cons e es ih =>
    intro l h
    have : parF (e :: es) l = parF es (l.set e.1 (e.2 : Nat)) := rfl
    rw [this, ih fun x hx => h x (List.mem_cons_of_mem _ hx), List.getElem?_set_ne (h e (by simp))]
theorem parF_get {es : List (Nat × Nat)} {i p : Nat} : ∀ {l : List Int}, (es.map Prod.fst).Nodup → (i, p) ∈ es → i < l.length → (parF es l)[i]? = some (p : Int) := by
  induction es with
  | nil => intro l _ h; cases h
  | cons e es ih =>
    intro l hn h hi
    rw [List.map_cons, List.nodup_cons] at hn
    have e1 : parF (e :: es) l = parF es (l.set e.1 (e.2 : Nat)) := rfl
    rw [e1]
    rcases List.mem_cons.1 h with rfl | h
    · rw [parF_not fun x hx e => hn.1 (List.mem_map.2 ⟨x, hx, e⟩), List.getElem?_set_self hi]
    · exact ih hn.2 h (by simpa using hi)
theorem count_one {l : List Int} {a : Int} {r : Nat} (hr : r < l.length) (h : ∀ i (hi : i < l.length), l[i] = a ↔ i = r) : l.count a = 1 := by
  have key : ∀ m, m ≤ l.length → (l.take m).count a = if r < m then 1 else 0 := by
    intro m
    induction m with
    | zero => intro _; simp
    | succ m ih =>
      intro hm
      have := ih (by omega)
      rw [count_next (by omega), this]
      by_cases c : m = r
      · subst c
        rw [if_neg (by omega), if_pos ((h m (by omega)).2 rfl), if_pos (by omega)]
      · rw [if_neg (show ¬ l[m] = a from fun e => c ((h m (by omega)).1 e))]
        by_cases d : r < m
        · rw [if_pos d, if_pos (by omega)]
        · rw [if_neg d, if_neg (by omega)]
  have := key l.length (Nat.le_refl _)
  rwa [List.take_length, if_pos hr] at this
theorem one_count {l : List Int} {a : Int} (h : l.count a = 1) : ∃ r, r < l.length ∧ ∀ i (hi : i < l.length), l[i] = a ↔ i = r := by
  have hm : a ∈ l := List.count_pos_iff.1 (by omega)
  obtain ⟨r, hr, hra⟩ := List.getElem_of_mem hm
  refine ⟨r, hr, fun i hi => ⟨fun e => ?_, fun e => by subst e; exact hra⟩⟩
  -- two of them would count two
  have two : ∀ (i j : Nat) (hi : i < l.length) (hj : j < l.length), i < j → l[i] = a → l[j] = a → False := by
    intro i j hi hj hij h1 h2
    have e1 := count_next hi a
    have e2 := count_next hj a
    rw [if_pos h1] at e1
    rw [if_pos h2] at e2
    have mono : ∀ d, (l.take (i + 1)).count a ≤ (l.take (i + 1 + d)).count a := by
      intro d
      exact List.Sublist.count_le _ (by
        have : l.take (i + 1) = (l.take (i + 1 + d)).take (i + 1) := by rw [List.take_take, Nat.min_eq_left (by omega)]
        rw [this]; exact List.take_sublist _ _)
    have m1 := mono (j - (i + 1))
    rw [show i + 1 + (j - (i + 1)) = j by omega] at m1
    have m2 : (l.take (j + 1)).count a ≤ l.count a := List.Sublist.count_le _ (List.take_sublist _ _)
    omega
  rcases Nat.lt_trichotomy i r with h1 | h1 | h1
  · exact (two i r hi hr h1 e hra).elim
  · exact h1
  · exact (two r i hr hi h1 hra e).elim
theorem nat_nodup_le {U : List Nat} {n : Nat} (hn : U.Nodup) (h : ∀ x, x ∈ U → x < n) : U.length ≤ n := by
  induction n generalizing U with
  | zero =>
    cases U with
    | nil => simp
    | cons a U => have := h a (by simp); omega
  | succ n ih =>
    by_cases hm : n ∈ U
    · have h1 := ih (hn.erase n) fun x hx => by
        rw [hn.mem_erase_iff] at hx
        have := h x hx.2
        omega
      rw [List.length_erase_of_mem hm] at h1
      omega
    · have := ih hn fun x hx => by
        have h1 := h x hx
        have : x ≠ n := fun e => hm (e ▸ hx)
        omega
      omega
/-- parents by ears -/
theorem run_joins {h : List (List Int)} {es : List (Nat × Nat)} {L' : Nat → Prop} {r : Nat} (hrun : Gy.Run (vx h) (fun k => k < h.length) es L') (hr : ∀ k, L' k ↔ k = r) (hrn : r < h.length) :
    joinsP h (parF es (List.replicate h.length (-1))) ∧ (parF es (List.replicate h.length (-1)))[r]? = some (-1) ∧ ∀ i, i < h.length → i ≠ r → ∃ p : Nat, p < h.length ∧ (parF es (List.replicate h.length (-1)))[i]? = some (p : Int) := by
  obtain ⟨m1, m2⟩ := hrun.mem
  have hnd := hrun.nodup
  have hlen : (parF es (List.replicate h.length (-1))).length = h.length := by rw [parF_len]; simp
  have g1 : ∀ i p, (i, p) ∈ es → (parF es (List.replicate h.length (-1)))[i]? = some (p : Int) := fun i p hm => parF_get hnd hm (by simpa using (m1 _ hm).1)
  have g2 : (parF es (List.replicate h.length (-1)))[r]? = some (-1) := by
    rw [parF_not fun x hx e => (m1 x hx).2.2 ((hr _).2 e)]
    simp [hrn]
  have g3 : ∀ i, i < h.length → i ≠ r → ∃ p : Nat, p < h.length ∧ (parF es (List.replicate h.length (-1)))[i]? = some (p : Int) := by
    intro i hi hir
    obtain ⟨p, hp⟩ := hrun.out i hi fun hl => hir ((hr i).1 hl)
    exact ⟨p, (m1 _ hp).2.1, g1 i p hp⟩
  generalize parF es (List.replicate h.length (-1)) = ps at *
  refine ⟨?_, g2, g3⟩
  have f1 : ∀ x, x ∈ es → fOf ps x.1 = some x.2 := by
    intro x hx
    unfold fOf
    rw [List.getD_eq_getElem?_getD, g1 x.1 x.2 hx]
    have : ¬ (x.2 : Int) = -1 := by omega
    simp [this]
  have f2 : fOf ps r = none := by
    unfold fOf
    rw [List.getD_eq_getElem?_getD, g2]
    rfl
  have het := hrun.elt hr f1 f2
  have hge : ∀ x, x < ps.length → -1 ≤ ps.getD x (-1) := by
    intro x hx
    rw [List.getD_eq_getElem?_getD]
    by_cases hxr : x = r
    · subst hxr; rw [g2]; simp
    · obtain ⟨p, hp, he⟩ := g3 x (by omega) hxr
      rw [he]; simp
  have htree : TreeOk ps := by
    intro i hi
    obtain ⟨U, h1, h2, h3⟩ := het.up i (by omega)
    have h4 : ∀ x, x ∈ U → x < ps.length := fun x hx => by have := h3 x hx; omega
    exact ⟨U, h1, h4, up_upF h1 h4 (fun x hx => hge x (h4 x hx)) ps.length (nat_nodup_le h2 h4)⟩
  have last : ∀ {i : Nat} {U : List Nat}, Gy.Up (fOf ps) i U → (∀ x, x ∈ U → x < ps.length) → ∃ q, U.getLast? = some q ∧ ps[q]? = some (-1) := by
    intro i U hU
    induction hU with
    | @root q hq =>
      intro hx
      refine ⟨q, rfl, ?_⟩
      have hql : q < ps.length := hx q (by simp)
      unfold fOf at hq
      split at hq
      · rename_i e
        rw [List.getD_eq_getElem?_getD] at e
        rw [List.getElem?_eq_getElem hql] at e ⊢
        simpa using e
      · cases hq
    | @step i p U hp ht ih =>
      intro hx
      obtain ⟨q, h1, h2⟩ := ih fun x h => hx x (List.mem_cons_of_mem _ h)
      exact ⟨q, by rw [List.getLast?_cons_of_ne_nil (by rintro rfl; cases h1)]; exact h1, h2⟩
  refine ⟨hlen, ?_, ?_⟩
  · unfold treeI
    rw [all_range, Bool.true_and, Bool.or_eq_true, decide_eq_true_iff, decide_eq_true_iff]
    · right
      refine count_one (r := r) (by omega) fun i hi => ⟨fun e => ?_, fun e => ?_⟩
      · refine Classical.byContradiction fun hir => ?_
        obtain ⟨p, hp, he⟩ := g3 i (by omega) hir
        rw [List.getElem?_eq_getElem hi] at he
        simp at he
        omega
      · subst e
        rw [List.getElem?_eq_getElem hi] at g2
        simpa using g2
    · intro j hj
      obtain ⟨U, h1, h2, h3⟩ := htree j hj
      obtain ⟨q, q1, q2⟩ := last h1 h2
      unfold endOk
      rw [h3]
      have : (nI U).getLast? = some (q : Int) := by unfold nI; rw [List.getLast?_map, q1]; rfl
      rw [this]
      simp [q2]
  · intro a b k ha hb hk hp
    have := (path_on htree (by omega) (by omega) (by omega)).1 hp
    rw [withinI_iff]
    intro v hv
    obtain ⟨v1, v2⟩ := sharedI_mem.1 hv
    exact het.on a b k ha (by show b < _; omega) this v v1 v2
/-- what a join tree says -/
theorem joins_elm {h : List (List Int)} {ps : List Int} (hj : joinsP h ps) (hn : 0 < h.length) : Gy.Elm (vx h) (fun k => k < h.length) := by
  obtain ⟨h1, h2, h3⟩ := hj
  have ht := tree_ok h2
  have hc : ps.count (-1) = 1 := by
    unfold treeI at h2
    rw [Bool.and_eq_true, Bool.or_eq_true, decide_eq_true_iff, decide_eq_true_iff] at h2
    rcases h2.2 with h | h
    · omega
    · exact h
  obtain ⟨r, hr, hr2⟩ := one_count hc
  refine Gy.tree_elm (f := fOf ps) (n := h.length) (fun i hi => ?_) (fun a b k ha hb hk hon v hv1 hv2 => ?_) r (by omega) (fun i hi hf => ?_) (List.range h.length) List.nodup_range (fun k => by simp) (fun k hk => hk) (fun k U hk hU x hx => ?_) (by omega)
  · obtain ⟨U, u1, u2, _⟩ := ht i (by omega)
    exact ⟨U, u1, fun x hx => by have := u2 x hx; omega⟩
  · have := h3 a b k ha hb hk ((path_on ht (by omega) (by omega) (by omega)).2 hon)
    exact withinI_iff.1 this v (sharedI_mem.2 ⟨hv1, hv2⟩)
  · refine (hr2 i (by omega)).1 ?_
    unfold fOf at hf
    split at hf
    · rename_i e
      rw [List.getD_eq_getElem?_getD, List.getElem?_eq_getElem (by omega)] at e
      simpa using e
    · cases hf
  · obtain ⟨W, w1, w2, _⟩ := ht k (by omega)
    rw [hU.uniq w1] at hx
    have := w2 x hx
    omega
theorem acy_nil : acyI [] = true := by decide +kernel
theorem parI_nil : parI [] = [] := by decide +kernel
/-- the parents of an acyclic hypergraph are a join tree -/
theorem par_joins {h : List (List Int)} (ha : acyI h = true) : joinsP h (parI h) := by
  rcases Nat.eq_zero_or_pos h.length with h0 | hn
  · have : h = [] := List.eq_nil_of_length_eq_zero h0
    subst this
    rw [parI_nil]
    exact ⟨rfl, rfl, fun a b k ha => by simp at ha⟩
  · obtain ⟨r, hr⟩ := (acy_iff h hn).1 ha
    have hrn : r < h.length := by have := lf_lt ((hr r).2 rfl); have := (playI_len h).1; omega
    exact (run_joins (playI_run h) hr hrn).1
theorem T_GyoParents (h : List (List Int)) (hn0 : h.length < 4611686018427387904) (hs0 : ∀ l, l ∈ h → l.length < 4611686018427387904) : T Try.prog 9 [.sl .no (lists' h)] (.bool true) := by
  have km := T_much21 h hn0 hs0
  refine T.intro (TS.body mix Try.func9 (by kernel_rfl) rfl (by kernel_rfl) (by simp) ?_)
  simp
  refine TS.callW km (Dws.self (by simp)) ?_
  cases hm : muchG h with
  | true =>
    simp
    refine TS.callW T_live22 .nil ?_
    simp
  | false =>
    have hh := much_ok hm
    have hn := hh.n
    have k1 := T_parents h hh
    have k2 := T_gacyc h hh
    have hpl : (parI h).length = h.length := by unfold parI; rw [parF_len]; simp
    have k3 := T_rjoins h (parI h) hh (by omega)
    simp
    cases ha : acyI h with
    | false =>
      rw [ha] at k1 k2
      simp at k1
      refine TS.callW k1 (Dws.self (by simp)) ?_
      simp
      refine TS.callW k2 (Dws.self (by simp)) ?_
      simp
      refine GTK.callW (fun h => nomatch h) (ys := []) (r := .bool true) ?_
      simp
      refine GTK.callW (fun _ => ⟨T_live22, .nil⟩) ?_
      simp
    | true =>
      rw [ha] at k1 k2
      rw [joinsI_iff.2 (par_joins ha)] at k3
      simp at k1
      refine TS.callW k1 (Dws.self (by simp)) ?_
      simp
      refine TS.callW k2 (Dws.self (by simp)) ?_
      simp
      refine GTK.callW (fun _ => ⟨k3, Dws.self (by simp)⟩) ?_
      simp
      refine GTK.callW (fun _ => ⟨T_live22, .nil⟩) ?_
      simp
theorem S_GyoParents {xs : List AV} (h : ShA Try.prog [32] xs) : T Try.prog 9 xs (.bool true) := by
  obtain ⟨y, r, rfl, h0, h⟩ := h.cons_of ag_32
  obtain rfl := h.nil_of
  obtain ⟨a, rfl, ha, hb⟩ := lists_in h0
  exact T_GyoParents a ha hb
end Go.Proofs.Ytahpoodcmeoabaa.PL
