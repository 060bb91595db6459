/- Relations, in plain words: what programs of semijoins leave. -/
import Derived.Test.YtjplcdeaedflpaaDoorFRelP
namespace Go.Proofs.YtjplcdeaedflpaaDoor.PL
open Go.Proofs
set_option linter.unusedVariables false
set_option linter.unusedSimpArgs false
abbrev semiR (a b : Rel) : Rel := someR a b true
theorem rightR_of {r : Rel} (h1 : r.cols.Pairwise (· < ·)) (h2 : ∀ l, l ∈ r.rows → l.length = r.cols.length) : rightR r = true := by
  unfold rightR risesB
  rw [Bool.and_eq_true, decide_eq_true_iff]
  refine ⟨h1, ?_⟩
  rw [Bool.not_eq_true', List.any_eq_false]
  intro x hx
  simp [wideB, h2 x hx]
theorem some_right {a b : Rel} {w : Bool} (h : rightR a = true) : rightR (someR a b w) = true :=
  rightR_of (r := someR a b w) (by have := rightR_rises h; exact this) fun l hl => rightR_row h (List.mem_filter.1 hl).1
theorem join_right (a b : Rel) : rightR (joinR a b) = true := by
  refine rightR_of (setI_rises _) fun l hl => ?_
  obtain ⟨x, _, hx⟩ := List.mem_flatMap.1 hl
  obtain ⟨y, _, rfl⟩ := List.mem_map.1 hx
  simp [rowJ, joinR]
theorem zero_right : rightR zR = true := by decide
theorem held_self (r : Rel) : heldR (heldR r) = heldR r := heldR_of (heldR_right r)
/-- a halved step -/
def stepJ (l : List Rel) (h : Int × Int) : List Rel :=
  if h.1 ≠ h.2 ∧ 0 ≤ h.1 ∧ h.1 < l.length ∧ 0 ≤ h.2 ∧ h.2 < l.length then l.set h.1.toNat (semiR (heldR (l.getD h.1.toNat zR)) (heldR (l.getD h.2.toNat zR))) else l
def playJ (l : List Rel) (prog : List (Int × Int)) : List Rel := prog.foldl stepJ l
theorem stepJ_len (l : List Rel) (h : Int × Int) : (stepJ l h).length = l.length := by unfold stepJ; split <;> simp
theorem playJ_len (prog : List (Int × Int)) : ∀ l, (playJ l prog).length = l.length := by
  induction prog with
  | nil => intro l; rfl
  | cons h prog ih => intro l; show (playJ (stepJ l h) prog).length = _; rw [ih, stepJ_len]
theorem playJ_snoc (l : List Rel) (prog : List (Int × Int)) (h : Int × Int) : playJ l (prog ++ [h]) = stepJ (playJ l prog) h := by unfold playJ; rw [List.foldl_append]; rfl
theorem playJ_app (l : List Rel) (p q : List (Int × Int)) : playJ l (p ++ q) = playJ (playJ l p) q := by unfold playJ; rw [List.foldl_append]
theorem stepJ_held (l : List Rel) (h : Int × Int) : (stepJ l h).map heldR = stepJ (l.map heldR) h := by
  unfold stepJ
  rw [List.length_map]
  split
  · rename_i hc
    rw [List.map_set, heldR_of (some_right (heldR_right _))]
    have e : ∀ k : Nat, (l.map heldR).getD k zR = heldR (l.getD k zR) := fun k => by
      rw [List.getD_eq_getElem?_getD, List.getD_eq_getElem?_getD, List.getElem?_map]
      cases l[k]? <;> simp [heldR_of zero_right]
    rw [e, e, held_self, held_self]
  · rfl
theorem playJ_held (prog : List (Int × Int)) : ∀ l, (playJ l prog).map heldR = playJ (l.map heldR) prog := by
  induction prog with
  | nil => intro l; rfl
  | cons h prog ih => intro l; show (playJ (stepJ l h) prog).map heldR = playJ (stepJ (l.map heldR) h) prog; rw [ih, stepJ_held]
def AllRight (l : List Rel) : Prop := ∀ r, r ∈ l → rightR r = true
theorem AllRight.map {l : List Rel} (h : AllRight l) : l.map heldR = l := by
  have e : l.map heldR = l.map id := List.map_congr_left fun r hr => heldR_of (h r hr)
  rw [e, List.map_id]
theorem AllRight.held (l : List Rel) : AllRight (l.map heldR) := fun r hr => by
  obtain ⟨x, _, rfl⟩ := List.mem_map.1 hr
  exact heldR_right x
theorem AllRight.set {l : List Rel} (h : AllRight l) {k : Nat} {r : Rel} (hr : rightR r = true) : AllRight (l.set k r) := fun x hx => by
  rcases List.mem_or_eq_of_mem_set hx with hx | rfl
  · exact h x hx
  · exact hr
theorem stepJ_right {l : List Rel} (h : AllRight l) (p : Int × Int) : AllRight (stepJ l p) := by
  unfold stepJ
  split
  · exact h.set (some_right (heldR_right _))
  · exact h
theorem playJ_right (prog : List (Int × Int)) : ∀ {l : List Rel}, AllRight l → AllRight (playJ l prog) := by
  induction prog with
  | nil => intro l h; exact h
  | cons p prog ih => intro l h; exact ih (stepJ_right h p)
/-- fewer rows, and none gone that takes part -/
structure Less (l' l : List Rel) : Prop where
  len : l'.length = l.length
  at' : ∀ i (h : i < l.length), ∃ Q : List Val → Bool, l'.getD i zR = ⟨(l.getD i zR).cols, (l.getD i zR).rows.filter Q⟩
  cons : ∀ t, consB t = true → t ∈ tupsR l → t ∈ tupsR l'
theorem all_kept (r : Rel) : r = ⟨r.cols, r.rows.filter fun _ => true⟩ := by
  have : r.rows.filter (fun _ => true) = r.rows := List.filter_eq_self.2 fun _ _ => rfl
  rw [this]
theorem Less.refl (l : List Rel) : Less l l := ⟨rfl, fun i h => ⟨fun _ => true, all_kept _⟩, fun t _ h => h⟩
theorem Less.trans {a b c : List Rel} (h : Less a b) (k : Less b c) : Less a c := by
  refine ⟨h.len.trans k.len, fun i hi => ?_, fun t hc ht => h.cons t hc (k.cons t hc ht)⟩
  obtain ⟨Q, hQ⟩ := h.at' i (by rw [k.len]; exact hi)
  obtain ⟨W, hW⟩ := k.at' i hi
  refine ⟨fun x => W x && Q x, ?_⟩
  rw [hQ, hW]
  simp [List.filter_filter, Bool.and_comm]
theorem getD_lt {l : List Rel} {i : Nat} (h : i < l.length) : l.getD i zR = l[i] := by rw [List.getD_eq_getElem?_getD, List.getElem?_eq_getElem h]; rfl
theorem Less.cols {a b : List Rel} (h : Less a b) (i : Nat) : (a.getD i zR).cols = (b.getD i zR).cols := by
  rcases Nat.lt_or_ge i b.length with hi | hi
  · obtain ⟨Q, hQ⟩ := h.at' i hi
    rw [hQ]
  · rw [List.getD_eq_getElem?_getD, List.getD_eq_getElem?_getD, List.getElem?_eq_none hi, List.getElem?_eq_none (by rw [h.len]; exact hi)]
theorem Less.mem {a b : List Rel} (h : Less a b) {i : Nat} {x : List Val} (hx : x ∈ (a.getD i zR).rows) : x ∈ (b.getD i zR).rows := by
  rcases Nat.lt_or_ge i b.length with hi | hi
  · obtain ⟨Q, hQ⟩ := h.at' i hi
    rw [hQ] at hx
    exact (List.mem_filter.1 hx).1
  · rw [List.getD_eq_getElem?_getD, List.getElem?_eq_none (by rw [h.len]; exact hi)] at hx
    simp [zR] at hx
theorem tups_get {t : List Ent} {l : List Rel} (h : t ∈ tupsR l) {i : Nat} (hi : i < l.length) : ∃ x, x ∈ (l.getD i zR).rows ∧ t[i]? = some ((l.getD i zR).cols, x) := by
  obtain ⟨h1, h2⟩ := tups_mem.1 h
  obtain ⟨e1, e2⟩ := h2 i (by omega) hi
  rw [getD_lt hi]
  exact ⟨_, e2, by rw [List.getElem?_eq_getElem (by omega), ← e1]⟩
theorem tups_of {t : List Ent} {l : List Rel} (h : t.length = l.length) (h2 : ∀ i, i < l.length → ∃ x, x ∈ (l.getD i zR).rows ∧ t[i]? = some ((l.getD i zR).cols, x)) : t ∈ tupsR l := by
  refine tups_mem.2 ⟨h, fun i hi hi' => ?_⟩
  obtain ⟨x, hx, hg⟩ := h2 i hi'
  rw [List.getElem?_eq_getElem hi, getD_lt hi'] at hg
  rw [getD_lt hi'] at hx
  rw [Option.some.inj hg]
  exact ⟨rfl, hx⟩
theorem getD_set {l : List Rel} {i k : Nat} {r : Rel} (hk : k < l.length) : (l.set k r).getD i zR = if i = k then r else l.getD i zR := by
  rw [List.getD_eq_getElem?_getD, List.getD_eq_getElem?_getD, List.getElem?_set]
  by_cases h : k = i
  · subst h; simp [hk]
  · have : ¬ i = k := fun e => h e.symm
    simp [h, this]
theorem Less.tups {a b : List Rel} (h : Less a b) {t : List Ent} (ht : t ∈ tupsR a) : t ∈ tupsR b := by
  refine tups_of ((tups_mem.1 ht).1.trans h.len) fun i hi => ?_
  obtain ⟨x, hx, hg⟩ := tups_get ht (i := i) (by rw [h.len]; exact hi)
  exact ⟨x, h.mem hx, by rw [← h.cols]; exact hg⟩
theorem semi_less {l : List Rel} {i k : Nat} (hi : i < l.length) (hk : k < l.length) (hik : i ≠ k) : Less (l.set i (semiR (l.getD i zR) (l.getD k zR))) l := by
  refine ⟨by simp, fun j hj => ?_, fun t hc ht => ?_⟩
  · rw [getD_set hi]
    by_cases h : j = i
    · subst h
      rw [if_pos rfl]
      exact ⟨_, rfl⟩
    · rw [if_neg h]
      exact ⟨fun _ => true, all_kept _⟩
  · refine tups_of (by rw [List.length_set]; exact (tups_mem.1 ht).1) fun j hj => ?_
    rw [List.length_set] at hj
    obtain ⟨x, hx, hg⟩ := tups_get ht hj
    rw [getD_set hi]
    by_cases h : j = i
    · subst h
      rw [if_pos rfl]
      refine ⟨x, List.mem_filter.2 ⟨hx, ?_⟩, hg⟩
      obtain ⟨y, hy, hgy⟩ := tups_get ht hk
      have hp := consB_iff.1 hc
      rw [List.pairwise_iff_getElem] at hp
      have hl := (tups_mem.1 ht).1
      have hag : Agree ((l.getD j zR).cols, x) ((l.getD k zR).cols, y) := by
        rw [List.getElem?_eq_getElem (by omega)] at hg hgy
        have e1 := Option.some.inj hg
        have e2 := Option.some.inj hgy
        rw [← e1, ← e2]
        rcases Nat.lt_or_gt_of_ne hik with h | h
        · exact hp j k _ _ h
        · exact (hp k j _ _ h).symm
      simp only [beq_true]
      exact List.any_eq_true.2 ⟨y, hy, meetB_iff.2 hag⟩
    · rw [if_neg h]
      exact ⟨x, hx, hg⟩
theorem held_getD {l : List Rel} (hr : AllRight l) (k : Nat) : heldR (l.getD k zR) = l.getD k zR := by
  rcases Nat.lt_or_ge k l.length with h | h
  · rw [getD_lt h]; exact heldR_of (hr _ (List.getElem_mem h))
  · rw [List.getD_eq_getElem?_getD, List.getElem?_eq_none h]; exact heldR_of zero_right
theorem step_less {l : List Rel} (hr : AllRight l) (h : Int × Int) : Less (stepJ l h) l := by
  unfold stepJ
  split
  · rename_i hc
    rw [held_getD hr, held_getD hr]
    exact semi_less (by omega) (by omega) (by omega)
  · exact .refl l
theorem play_less (prog : List (Int × Int)) : ∀ {l : List Rel}, AllRight l → Less (playJ l prog) l := by
  induction prog with
  | nil => intro l _; exact .refl l
  | cons h prog ih => intro l hr; exact (ih (stepJ_right hr h)).trans (step_less hr h)
theorem colsL_getD (l : List Rel) {c : Int} : c ∈ colsL l ↔ ∃ i, i < l.length ∧ c ∈ (l.getD i zR).cols := by
  unfold colsL
  rw [setI_mem, List.mem_flatMap]
  constructor
  · rintro ⟨r, hr, hc⟩
    obtain ⟨i, hi, rfl⟩ := List.getElem_of_mem hr
    exact ⟨i, hi, by rw [getD_lt hi]; exact hc⟩
  · rintro ⟨i, hi, hc⟩
    exact ⟨l[i], List.getElem_mem _, by rw [← getD_lt hi]; exact hc⟩
theorem Less.same {a b : List Rel} (h : Less a b) : colsL a = colsL b := by
  refine rises_eq (setI_rises _) (setI_rises _) fun x => ?_
  show x ∈ colsL a ↔ x ∈ colsL b
  rw [colsL_getD, colsL_getD, h.len]
  simp only [h.cols]
theorem flat_filter {α β : Type} {p : β → Bool} {f : α → List β} (l : List α) : (l.flatMap f).filter p = l.flatMap fun x => (f x).filter p := by
  induction l with
  | nil => rfl
  | cons a l ih => rw [List.flatMap_cons, List.flatMap_cons, List.filter_append, ih]
theorem filter_flat {α β : Type} {p : α → Bool} {f : α → List β} (l : List α) : (l.filter p).flatMap f = l.flatMap fun x => if p x = true then f x else [] := by
  induction l with
  | nil => rfl
  | cons a l ih =>
    rw [List.flatMap_cons, ← ih]
    cases h : p a <;> simp [h]
theorem tups_set (q : List Val → Bool) : ∀ (l : List Rel) (i : Nat), i < l.length → tupsR (l.set i ⟨(l.getD i zR).cols, (l.getD i zR).rows.filter q⟩) = (tupsR l).filter fun t => q (t.getD i ([], [])).2
  | r :: l, 0, _ => by
    show (r.rows.filter q).flatMap (fun x => (tupsR l).map fun t => (r.cols, x) :: t) = (r.rows.flatMap fun x => (tupsR l).map fun t => (r.cols, x) :: t).filter _
    rw [flat_filter, filter_flat]
    congr 1
    funext x
    rw [List.filter_map]
    cases h : q x with
    | true =>
      rw [if_pos rfl]
      congr 1
      symm
      rw [List.filter_eq_self]
      intro t _
      exact h
    | false =>
      rw [if_neg (by simp)]
      symm
      rw [List.map_eq_nil_iff, List.filter_eq_nil_iff]
      intro t _
      show ¬ q x = true
      rw [h]; simp
  | r :: l, i + 1, hi => by
    have ih := tups_set q l i (by simpa using hi)
    show r.rows.flatMap (fun x => (tupsR (l.set i ⟨(l.getD i zR).cols, (l.getD i zR).rows.filter q⟩)).map fun t => (r.cols, x) :: t) = (r.rows.flatMap fun x => (tupsR l).map fun t => (r.cols, x) :: t).filter _
    rw [flat_filter, ih]
    congr 1
    funext x
    rw [List.filter_map]
    rfl
theorem fmap_congr {α β : Type} {f g : α → Option β} : ∀ {l : List α}, (∀ x, x ∈ l → f x = g x) → l.filterMap f = l.filterMap g
  | [], _ => rfl
  | a :: l, h => by rw [List.filterMap_cons, List.filterMap_cons, h a List.mem_cons_self, fmap_congr fun x hx => h x (List.mem_cons_of_mem _ hx)]
theorem less_rows {l : List Rel} {i : Nat} {q : List Val → Bool} (hi : i < l.length) (h : Less (l.set i ⟨(l.getD i zR).cols, (l.getD i zR).rows.filter q⟩) l) (C : List Int) : (tupsR (l.set i ⟨(l.getD i zR).cols, (l.getD i zR).rows.filter q⟩)).filterMap (rowT C) = (tupsR l).filterMap (rowT C) := by
  have hc := h.cons
  rw [tups_set q l i hi] at hc ⊢
  rw [List.filterMap_filter]
  apply fmap_congr
  intro t ht
  split
  · rfl
  · rename_i hq
    unfold rowT
    split
    · rename_i hct
      exact absurd (List.mem_filter.1 (hc t hct ht)).2 hq
    · rfl
theorem step_rows {l : List Rel} (hr : AllRight l) (h : Int × Int) (C : List Int) : (tupsR (stepJ l h)).filterMap (rowT C) = (tupsR l).filterMap (rowT C) := by
  have hl := step_less hr h
  unfold stepJ at hl ⊢
  split
  · rename_i hc
    rw [if_pos hc] at hl
    rw [held_getD hr, held_getD hr] at hl ⊢
    exact less_rows (by omega) hl C
  · rfl
theorem play_rows (prog : List (Int × Int)) (C : List Int) : ∀ {l : List Rel}, AllRight l → (tupsR (playJ l prog)).filterMap (rowT C) = (tupsR l).filterMap (rowT C) := by
  induction prog with
  | nil => intro l _; rfl
  | cons h prog ih => intro l hr; exact (ih (stepJ_right hr h)).trans (step_rows hr h C)
/-- no program takes a row from all together -/
theorem play_all (prog : List (Int × Int)) {l : List Rel} (hr : AllRight l) : allJ (playJ l prog) = allJ l := by
  have h := play_less prog hr
  rw [allJ_eq _ _ rfl, allJ_eq _ l rfl, h.same, play_rows prog _ hr]
/-- does a row take part? -/
def partB (l : List Rel) (i : Nat) (x : List Val) : Bool := decide (0 < (allJ (l.set i ⟨(l.getD i zR).cols, [x]⟩)).rows.length)
theorem partB_iff {l : List Rel} {i : Nat} (hi : i < l.length) {x : List Val} (hx : x ∈ (l.getD i zR).rows) : partB l i x = true ↔ ∃ t, t ∈ tupsR l ∧ consB t = true ∧ t[i]? = some ((l.getD i zR).cols, x) := by
  unfold partB
  rw [decide_eq_true_iff, allJ_rows, List.length_pos_iff, Ne, List.filterMap_eq_nil_iff]
  have hset : ∀ t : List Ent, t ∈ tupsR (l.set i ⟨(l.getD i zR).cols, [x]⟩) ↔ t ∈ tupsR l ∧ t[i]? = some ((l.getD i zR).cols, x) := fun t => by
    constructor
    · intro ht
      have hself := tups_get ht (i := i) (by simpa using hi)
      rw [getD_set hi, if_pos rfl] at hself
      obtain ⟨y, hy, hg⟩ := hself
      obtain rfl : y = x := by simpa using hy
      refine ⟨tups_of (by simpa using (tups_mem.1 ht).1) fun j hj => ?_, hg⟩
      by_cases hji : j = i
      · subst hji; exact ⟨y, hx, hg⟩
      · have := tups_get ht (i := j) (by simpa using hj)
        rwa [getD_set hi, if_neg hji] at this
    · rintro ⟨ht, hg⟩
      refine tups_of (by simpa using (tups_mem.1 ht).1) fun j hj => ?_
      rw [List.length_set] at hj
      rw [getD_set hi]
      by_cases hji : j = i
      · subst hji; rw [if_pos rfl]; exact ⟨x, List.mem_cons_self, hg⟩
      · rw [if_neg hji]; exact tups_get ht hj
  constructor
  · intro h
    by_cases hex : ∃ t, t ∈ tupsR l ∧ consB t = true ∧ t[i]? = some ((l.getD i zR).cols, x)
    · exact hex
    · exfalso
      apply h
      intro t ht
      obtain ⟨h1, h2⟩ := (hset t).1 ht
      unfold rowT
      rw [if_neg fun hc => hex ⟨t, h1, hc, h2⟩]
  · rintro ⟨t, h1, h2, h3⟩ h
    have := h t ((hset t).2 ⟨h1, h3⟩)
    unfold rowT at this
    rw [if_pos h2] at this
    cases this
/-- the rows that take part -/
def fullJ (l : List Rel) (i : Nat) : Rel := ⟨(l.getD i zR).cols, (l.getD i zR).rows.filter (partB l i)⟩
theorem less_full {a b : List Rel} (h : Less a b) {i : Nat} (hi : i < b.length) : fullJ a i = fullJ b i := by
  unfold fullJ
  obtain ⟨Q, hQ⟩ := h.at' i hi
  have hia : i < a.length := by rw [h.len]; exact hi
  have key : ∀ x, x ∈ (b.getD i zR).rows → (partB b i x = true ↔ Q x = true ∧ partB a i x = true) := fun x hx => by
    rw [partB_iff hi hx]
    constructor
    · rintro ⟨t, h1, h2, h3⟩
      have h4 := h.cons t h2 h1
      obtain ⟨y, hy, hg⟩ := tups_get h4 hia
      rw [h3, h.cols] at hg
      have e : x = y := (Prod.mk.inj (Option.some.inj hg)).2
      subst e
      refine ⟨?_, (partB_iff hia hy).2 ⟨t, h4, h2, by rw [h.cols]; exact h3⟩⟩
      rw [hQ] at hy
      exact (List.mem_filter.1 hy).2
    · rintro ⟨hq, hp⟩
      have hy : x ∈ (a.getD i zR).rows := by rw [hQ]; exact List.mem_filter.2 ⟨hx, hq⟩
      obtain ⟨t, h1, h2, h3⟩ := (partB_iff hia hy).1 hp
      exact ⟨t, h.tups h1, h2, by rw [← h.cols]; exact h3⟩
  rw [h.cols]
  congr 1
  rw [hQ]
  dsimp only
  rw [List.filter_filter]
  apply List.filter_congr
  intro x hx
  rw [Bool.eq_iff_iff, Bool.and_eq_true, key x hx, and_comm]
theorem play_full (prog : List (Int × Int)) {l : List Rel} (hr : AllRight l) {i : Nat} (hi : i < l.length) : fullJ (playJ l prog) i = fullJ l i := less_full (play_less prog hr) hi
end Go.Proofs.YtjplcdeaedflpaaDoor.PL
