/- Contracts of functions of the program, and plain laws (part 7): Relations, in plain words: all together, in whatever order; Relations, in plain words: what programs of semijoins leave; Relations: all together, in the program and by the reference; Relations: any two  all together, in whatever order; Relations: all together, in whatever order; Programs of semijoins, played; Trees by their parents: another root, and JtreeTells. -/
import Derived.Test.YtjplcdeaedflpaaGreatDoorB4
import Derived.Test.YtjplcdeaedflpaaGreatDoorB5
import Derived.Test.YtjplcdeaedflpaaGreatDoorB6
namespace Go.Proofs.YtjplcdeaedflpaaGreatDoor.PL
open Go.Proofs
set_option linter.unusedVariables false
set_option linter.unusedSimpArgs false
/-- a row, with its columns -/
abbrev Ent := List Int × List Val
def getE (e : Ent) (c : Int) : Val := pickF e.2 (idxF e.1 c)
def Agree (e f : Ent) : Prop := ∀ c, c ∈ e.1 → c ∈ f.1 → getE e c = getE f c ∧ okV (getE e c) = true
def agreeB (e f : Ent) : Bool := matchV (valsF e.1 e.2 (sharedI e.1 f.1)) (valsF f.1 f.2 (sharedI e.1 f.1))
theorem sharedI_mem' {a b : List Int} {c : Int} : c ∈ sharedI a b ↔ c ∈ a ∧ c ∈ b := by
  unfold sharedI
  rw [List.mem_filter, setI_mem]
  simp
theorem agreeB_iff {e f : Ent} : agreeB e f = true ↔ Agree e f := by
  unfold agreeB matchV valsF Agree
  rw [Bool.and_eq_true, decide_eq_true_iff, List.map_inj_left, List.all_eq_true]
  constructor
  · rintro ⟨h1, h2⟩ c hc hd
    have hm := sharedI_mem'.2 ⟨hc, hd⟩
    exact ⟨h1 c hm, h2 _ (List.mem_map.2 ⟨c, hm, rfl⟩)⟩
  · intro h
    refine ⟨fun c hc => (h c (sharedI_mem'.1 hc).1 (sharedI_mem'.1 hc).2).1, fun v hv => ?_⟩
    obtain ⟨c, hc, rfl⟩ := List.mem_map.1 hv
    exact (h c (sharedI_mem'.1 hc).1 (sharedI_mem'.1 hc).2).2
theorem meetB_agree {a b : Rel} {x y : List Val} : meetB a b x y = agreeB (a.cols, x) (b.cols, y) := rfl
theorem meetB_iff {a b : Rel} {x y : List Val} : meetB a b x y = true ↔ Agree (a.cols, x) (b.cols, y) := by rw [meetB_agree, agreeB_iff]
theorem Agree.symm {e f : Ent} (h : Agree e f) : Agree f e := fun c h1 h2 => by
  obtain ⟨h3, h4⟩ := h c h2 h1
  exact ⟨h3.symm, by rw [← h3]; exact h4⟩
def consB : List Ent → Bool
  | [] => true
  | e :: t => t.all (agreeB e) && consB t
theorem consB_iff : ∀ {t : List Ent}, consB t = true ↔ t.Pairwise Agree
  | [] => by simp [consB]
  | e :: t => by
    unfold consB
    rw [Bool.and_eq_true, List.all_eq_true, List.pairwise_cons, consB_iff]
    simp only [agreeB_iff]
def valT (t : List Ent) (c : Int) : Val := match t.find? (fun e => decide (c ∈ e.1)) with | some e => getE e c | none => zV4
def rowT (C : List Int) (t : List Ent) : Option (List Val) := if consB t = true then some (C.map (valT t)) else none
def tupsR : List Rel → List (List Ent)
  | [] => [[]]
  | r :: l => r.rows.flatMap fun x => (tupsR l).map fun t => (r.cols, x) :: t
def colsL (l : List Rel) : List Int := setI (l.flatMap Rel.cols)
def allJ (l : List Rel) : Rel := l.foldl joinR ⟨[], [[]]⟩
theorem pairs_same {t : List Ent} (h : t.Pairwise Agree) {e f : Ent} (he : e ∈ t) (hf : f ∈ t) {c : Int} (hc : c ∈ e.1) (hd : c ∈ f.1) : getE e c = getE f c := by
  induction t with
  | nil => cases he
  | cons a t ih =>
    rw [List.pairwise_cons] at h
    rcases List.mem_cons.1 he with he1 | he1 <;> rcases List.mem_cons.1 hf with hf1 | hf1
    · rw [he1, hf1]
    · subst he1; exact (h.1 f hf1 c hc hd).1
    · subst hf1; exact (h.1 e he1 c hd hc).1.symm
    · exact ih h.2 he1 hf1
theorem valT_mem {t : List Ent} (h : t.Pairwise Agree) {e : Ent} (he : e ∈ t) {c : Int} (hc : c ∈ e.1) : valT t c = getE e c := by
  unfold valT
  cases hf : t.find? (fun e => decide (c ∈ e.1)) with
  | none =>
    rw [List.find?_eq_none] at hf
    exact absurd (hf e he) (by simpa using hc)
  | some g =>
    have h1 := List.mem_of_find?_eq_some hf
    have h2 := List.find?_some hf
    exact pairs_same h h1 he (by simpa using h2) hc
theorem valT_none {t : List Ent} {c : Int} (h : ∀ e, e ∈ t → c ∉ e.1) : valT t c = zV4 := by
  unfold valT
  rw [List.find?_eq_none.2 fun e he => by simpa using h e he]
theorem valT_app {t s : List Ent} {c : Int} (h : ∃ e, e ∈ t ∧ c ∈ e.1) : valT (t ++ s) c = valT t c := by
  unfold valT
  rw [List.find?_append]
  cases hf : t.find? (fun e => decide (c ∈ e.1)) with
  | none =>
    rw [List.find?_eq_none] at hf
    obtain ⟨e, he, hc⟩ := h
    exact absurd (hf e he) (by simpa using hc)
  | some g => rfl
theorem valT_app2 {t s : List Ent} {c : Int} (h : ∀ e, e ∈ t → c ∉ e.1) : valT (t ++ s) c = valT s c := by
  unfold valT
  rw [List.find?_append, List.find?_eq_none.2 fun e he => by simpa using h e he]
  rfl
theorem get_map {C : List Int} {g : Int → Val} {c : Int} (h : c ∈ C) : pickF (C.map g) (idxF C c) = g c := by
  obtain ⟨i, hi, h1, h2⟩ := idxF_at h
  rw [h2, pickF_in (by simpa using hi)]
  simp [h1]
theorem tups_snoc (l : List Rel) (r : Rel) : tupsR (l ++ [r]) = (tupsR l).flatMap fun t => r.rows.map fun x => t ++ [(r.cols, x)] := by
  induction l with
  | nil => simp [tupsR, List.flatMap_def, List.map_map, Function.comp_def]; induction r.rows <;> simp_all
  | cons a l ih =>
    rw [List.cons_append]
    unfold tupsR
    rw [ih, List.flatMap_assoc]
    congr 1
    funext x
    rw [List.flatMap_map, List.map_flatMap]
    simp [List.map_map, Function.comp_def]
theorem tups_mem {t : List Ent} : ∀ {l : List Rel}, t ∈ tupsR l ↔ t.length = l.length ∧ ∀ i (h : i < t.length) (h' : i < l.length), t[i].1 = l[i].cols ∧ t[i].2 ∈ l[i].rows := by
  induction t with
  | nil =>
    intro l
    cases l with
    | nil => simp [tupsR]
    | cons r l =>
      simp [tupsR]
  | cons e t ih =>
    intro l
    cases l with
    | nil => simp [tupsR]
    | cons r l =>
      unfold tupsR
      rw [List.mem_flatMap]
      constructor
      · rintro ⟨x, hx, ht⟩
        rw [List.mem_map] at ht
        obtain ⟨t', ht', he⟩ := ht
        cases he
        obtain ⟨h1, h2⟩ := ih.1 ht'
        refine ⟨by simp [h1], fun i hi hi' => ?_⟩
        cases i with
        | zero => exact ⟨rfl, hx⟩
        | succ i => simpa using h2 i (by simpa using hi) (by simpa using hi')
      · rintro ⟨h1, h2⟩
        have h0 := h2 0 (by simp) (by simp)
        refine ⟨e.2, h0.2, List.mem_map.2 ⟨t, ih.2 ⟨by simpa using h1, fun i hi hi' => ?_⟩, ?_⟩⟩
        · have := h2 (i + 1) (by simpa using hi) (by simpa using hi')
          rwa [List.getElem_cons_succ, List.getElem_cons_succ] at this
        · rw [show r.cols = e.1 from h0.1.symm]
theorem tups_cols {t : List Ent} {l : List Rel} (h : t ∈ tupsR l) {c : Int} : c ∈ colsL l ↔ ∃ e, e ∈ t ∧ c ∈ e.1 := by
  obtain ⟨h1, h2⟩ := tups_mem.1 h
  unfold colsL
  rw [setI_mem, List.mem_flatMap]
  constructor
  · rintro ⟨r, hr, hc⟩
    obtain ⟨i, hi, rfl⟩ := List.getElem_of_mem hr
    exact ⟨t[i], List.getElem_mem _, by rw [(h2 i (by omega) hi).1]; exact hc⟩
  · rintro ⟨e, he, hc⟩
    obtain ⟨i, hi, rfl⟩ := List.getElem_of_mem he
    exact ⟨l[i], List.getElem_mem _, by rw [← (h2 i hi (by omega)).1]; exact hc⟩
theorem filt_map {α β : Type} (p : α → Bool) (f : α → β) (l : List α) : (l.filter p).map f = l.filterMap fun x => if p x = true then some (f x) else none := by
  induction l with
  | nil => rfl
  | cons a l ih =>
    cases h : p a <;> simp [h, ih]
theorem consB_snoc {t : List Ent} {e : Ent} : consB (t ++ [e]) = true ↔ consB t = true ∧ ∀ f, f ∈ t → Agree f e := by
  rw [consB_iff, consB_iff, List.pairwise_append]
  simp
theorem step_one {l : List Rel} {r : Rel} {R : List (List Val)} {t : List Ent} (ht : t ∈ tupsR l) : (match rowT (colsL l) t with | some row => rowsJ ⟨colsL l, R⟩ r row | none => []) = (r.rows.map fun x => t ++ [(r.cols, x)]).filterMap (rowT (setI (colsL l ++ r.cols))) := by
  rw [List.filterMap_map]
  have hcol := @tups_cols t l ht
  cases hc : consB t with
  | false =>
    have : rowT (colsL l) t = none := by unfold rowT; rw [hc]; rfl
    rw [this]
    symm
    show _ = []
    rw [List.filterMap_eq_nil_iff]
    intro x _
    show rowT _ (t ++ [(r.cols, x)]) = none
    unfold rowT
    rw [if_neg]
    rw [consB_snoc, hc]
    simp
  | true =>
    have : rowT (colsL l) t = some ((colsL l).map (valT t)) := by unfold rowT; rw [hc]; rfl
    rw [this]
    show rowsJ _ _ _ = _
    unfold rowsJ
    rw [filt_map]
    congr 1
    funext x
    show _ = rowT _ (t ++ [(r.cols, x)])
    have hp := consB_iff.1 hc
    have hget : ∀ c, c ∈ colsL l → getE (colsL l, (colsL l).map (valT t)) c = valT t c := fun c hc => get_map hc
    have hiff : meetB ⟨colsL l, R⟩ r ((colsL l).map (valT t)) x = true ↔ ∀ f, f ∈ t → Agree f (r.cols, x) := by
      rw [meetB_iff]
      constructor
      · intro h f hf c h1 h2
        have hcl := hcol.2 ⟨f, hf, h1⟩
        have := h c hcl h2
        rw [hget c hcl, valT_mem hp hf h1] at this
        exact this
      · intro h c h1 h2
        obtain ⟨f, hf, h3⟩ := hcol.1 h1
        rw [hget c h1, valT_mem hp hf h3]
        exact h f hf c h3 h2
    unfold rowT
    by_cases hm : meetB ⟨colsL l, R⟩ r ((colsL l).map (valT t)) x = true
    · rw [if_pos hm, if_pos (consB_snoc.2 ⟨hc, hiff.1 hm⟩)]
      congr 1
      unfold rowJ colsJ
      apply List.map_congr_left
      intro c hcm
      rw [setI_mem, List.mem_append] at hcm
      unfold cellJ
      by_cases hcl : c ∈ colsL l
      · rw [if_pos hcl, valT_app (hcol.1 hcl)]
        exact hget c hcl
      · rw [if_neg hcl, valT_app2 fun e he h => hcl (hcol.2 ⟨e, he, h⟩)]
        have hr : c ∈ r.cols := hcm.resolve_left hcl
        exact (valT_mem (t := [(r.cols, x)]) (List.pairwise_singleton _ _) List.mem_cons_self hr).symm
    · rw [if_neg hm, if_neg fun h => hm (hiff.2 (consB_snoc.1 h).2)]
theorem step_all {l : List Rel} {r : Rel} {R : List (List Val)} : ∀ T : List (List Ent), (∀ t, t ∈ T → t ∈ tupsR l) → (T.filterMap (rowT (colsL l))).flatMap (rowsJ ⟨colsL l, R⟩ r) = (T.flatMap fun t => r.rows.map fun x => t ++ [(r.cols, x)]).filterMap (rowT (setI (colsL l ++ r.cols)))
  | [], _ => rfl
  | t :: T, h => by
    have h1 := step_one (r := r) (R := R) (h t List.mem_cons_self)
    have h2 := step_all (l := l) (r := r) (R := R) T fun t ht => h t (List.mem_cons_of_mem _ ht)
    rw [List.flatMap_cons, List.filterMap_append, ← h2, ← h1, List.filterMap_cons]
    cases rowT (colsL l) t <;> simp
theorem colsL_snoc (l : List Rel) (r : Rel) : colsL (l ++ [r]) = setI (colsL l ++ r.cols) := by
  refine rises_eq (setI_rises _) (setI_rises _) fun x => ?_
  rw [colsL, setI_mem, setI_mem, List.mem_append, colsL, setI_mem, List.flatMap_append]
  simp
theorem allJ_snoc (l : List Rel) (r : Rel) : allJ (l ++ [r]) = joinR (allJ l) r := by unfold allJ; rw [List.foldl_append]; rfl
theorem allJ_eq : ∀ (n : Nat) (l : List Rel), l.length = n → allJ l = ⟨colsL l, (tupsR l).filterMap (rowT (colsL l))⟩
  | 0, l, h => by
    obtain rfl := List.eq_nil_of_length_eq_zero h
    simp [allJ, colsL, tupsR, rowT, consB, setI]
  | n + 1, l, h => by
    rcases List.eq_nil_or_concat l with rfl | ⟨l, r, rfl⟩
    · cases h
    rw [List.concat_eq_append] at h ⊢
    have ih := allJ_eq n l (by simpa using h)
    rw [allJ_snoc, ih, tups_snoc, colsL_snoc]
    unfold joinR
    rw [← step_all (l := l) (r := r) (R := (tupsR l).filterMap (rowT (colsL l))) _ fun t h => h]
    rfl
theorem allJ_rows (l : List Rel) : (allJ l).rows = (tupsR l).filterMap (rowT (colsL l)) := by rw [allJ_eq _ l rfl]
theorem allJ_cols (l : List Rel) : (allJ l).cols = colsL l := by rw [allJ_eq _ l rfl]
theorem perm_flat {α β : Type} {f g : α → List β} : ∀ {l : List α}, (∀ x, x ∈ l → (f x).Perm (g x)) → (l.flatMap f).Perm (l.flatMap g)
  | [], _ => .refl _
  | a :: l, h => by
    rw [List.flatMap_cons, List.flatMap_cons]
    exact (h a List.mem_cons_self).append (perm_flat fun x hx => h x (List.mem_cons_of_mem _ hx))
theorem flat_two {α β : Type} {f g : α → List β} : ∀ {l : List α}, (l.flatMap f ++ l.flatMap g).Perm (l.flatMap fun x => f x ++ g x)
  | [] => .refl _
  | a :: l => by
    rw [List.flatMap_cons, List.flatMap_cons, List.flatMap_cons, List.append_assoc, List.append_assoc]
    refine List.Perm.append_left _ ?_
    rw [← List.append_assoc]
    refine (List.perm_append_comm.append_right _).trans ?_
    rw [List.append_assoc]
    exact List.Perm.append_left _ flat_two
theorem flat_comm {α β γ : Type} {f : α → β → List γ} {m : List β} : ∀ {l : List α}, (l.flatMap fun x => m.flatMap fun y => f x y).Perm (m.flatMap fun y => l.flatMap fun x => f x y)
  | [] => by simp
  | a :: l => by
    simp only [List.flatMap_cons]
    exact (List.Perm.append_left _ flat_comm).trans flat_two
theorem tups_cons_map {β : Type} (f : List Ent → Option β) (r : Rel) (l : List Rel) : (tupsR (r :: l)).filterMap f = r.rows.flatMap fun x => (tupsR l).filterMap fun t => f ((r.cols, x) :: t) := by
  rw [show tupsR (r :: l) = r.rows.flatMap fun x => (tupsR l).map fun t => (r.cols, x) :: t from rfl, List.filterMap_flatMap]
  simp only [List.filterMap_map, Function.comp_def]
theorem tups_perm {l l' : List Rel} (h : l.Perm l') : ∀ {β : Type} (f : List Ent → Option β), (∀ t t', t.Perm t' → f t = f t') → ((tupsR l).filterMap f).Perm ((tupsR l').filterMap f) := by
  induction h with
  | nil => intro β f hf; exact .refl _
  | cons r h ih =>
    intro β f hf
    rw [tups_cons_map, tups_cons_map]
    exact perm_flat fun x _ => ih _ fun t t' ht => hf _ _ (ht.cons _)
  | swap r s l =>
    intro β f hf
    rw [tups_cons_map, tups_cons_map]
    simp only [tups_cons_map]
    refine flat_comm.trans (perm_flat fun x _ => perm_flat fun y _ => ?_)
    have : (fun t => f ((s.cols, y) :: (r.cols, x) :: t)) = fun t => f ((r.cols, x) :: (s.cols, y) :: t) := by
      funext t
      exact hf _ _ (.swap _ _ _)
    rw [this]
  | trans _ _ ih1 ih2 => intro β f hf; exact (ih1 f hf).trans (ih2 f hf)
theorem rowT_perm (C : List Int) (t t' : List Ent) (h : t.Perm t') : rowT C t = rowT C t' := by
  have hc : consB t = true ↔ consB t' = true := by
    rw [consB_iff, consB_iff]
    exact h.pairwise_iff fun h => h.symm
  unfold rowT
  by_cases h1 : consB t = true
  · rw [if_pos h1, if_pos (hc.1 h1)]
    congr 1
    apply List.map_congr_left
    intro c _
    by_cases h2 : ∃ e, e ∈ t ∧ c ∈ e.1
    · obtain ⟨e, he, hce⟩ := h2
      rw [valT_mem (consB_iff.1 h1) he hce, valT_mem (consB_iff.1 (hc.1 h1)) (h.mem_iff.1 he) hce]
    · rw [valT_none fun e he hce => h2 ⟨e, he, hce⟩, valT_none fun e he hce => h2 ⟨e, h.mem_iff.2 he, hce⟩]
  · rw [if_neg h1, if_neg fun h => h1 (hc.2 h)]
theorem colsL_perm {l l' : List Rel} (h : l.Perm l') : colsL l = colsL l' := by
  refine rises_eq (setI_rises _) (setI_rises _) fun x => ?_
  unfold colsL
  rw [setI_mem, setI_mem, List.mem_flatMap, List.mem_flatMap]
  constructor
  · rintro ⟨r, hr, hx⟩; exact ⟨r, h.mem_iff.1 hr, hx⟩
  · rintro ⟨r, hr, hx⟩; exact ⟨r, h.mem_iff.2 hr, hx⟩
theorem allJ_perm {l l' : List Rel} (h : l.Perm l') : (allJ l).cols = (allJ l').cols ∧ (allJ l).rows.Perm (allJ l').rows := by
  rw [allJ_cols, allJ_cols, allJ_rows, allJ_rows, colsL_perm h]
  exact ⟨rfl, tups_perm h _ (rowT_perm _)⟩
end Go.Proofs.YtjplcdeaedflpaaGreatDoor.PL
namespace Go.Proofs.YtjplcdeaedflpaaGreatDoor.PL
open Go.Proofs
set_option linter.unusedVariables false
set_option linter.unusedSimpArgs false
abbrev semiR (a b : Rel) : Rel := someR a b true
theorem rightR_of {r : Rel} (h1 : r.cols.Pairwise (· < ·)) (h2 : ∀ l, l ∈ r.rows → l.length = r.cols.length) : rightR r = true := by
  unfold rightR risesB
  rw [Bool.and_eq_true, decide_eq_true_iff]
  refine ⟨h1, ?_⟩
  rw [Bool.not_eq_true', List.any_eq_false]
  intro x hx
  simp [wideB, h2 x hx]
theorem some_right {a b : Rel} {w : Bool} (h : rightR a = true) : rightR (someR a b w) = true :=
  rightR_of (r := someR a b w) (by have := rightR_rises h; exact this) fun l hl => rightR_row h (List.mem_filter.1 hl).1
theorem join_right (a b : Rel) : rightR (joinR a b) = true := by
  refine rightR_of (setI_rises _) fun l hl => ?_
  obtain ⟨x, _, hx⟩ := List.mem_flatMap.1 hl
  obtain ⟨y, _, rfl⟩ := List.mem_map.1 hx
  simp [rowJ, joinR]
theorem zero_right : rightR zR = true := by decide
/-- a halved step -/
def stepJ (l : List Rel) (h : Int × Int) : List Rel :=
  if h.1 ≠ h.2 ∧ 0 ≤ h.1 ∧ h.1 < l.length ∧ 0 ≤ h.2 ∧ h.2 < l.length then l.set h.1.toNat (semiR (heldR (l.getD h.1.toNat zR)) (heldR (l.getD h.2.toNat zR))) else l
def playJ (l : List Rel) (prog : List (Int × Int)) : List Rel := prog.foldl stepJ l
theorem stepJ_len (l : List Rel) (h : Int × Int) : (stepJ l h).length = l.length := by unfold stepJ; split <;> simp
theorem playJ_len (prog : List (Int × Int)) : ∀ l, (playJ l prog).length = l.length := by
  induction prog with
  | nil => intro l; rfl
  | cons h prog ih => intro l; show (playJ (stepJ l h) prog).length = _; rw [ih, stepJ_len]
theorem playJ_snoc (l : List Rel) (prog : List (Int × Int)) (h : Int × Int) : playJ l (prog ++ [h]) = stepJ (playJ l prog) h := by unfold playJ; rw [List.foldl_append]; rfl
theorem playJ_app (l : List Rel) (p q : List (Int × Int)) : playJ l (p ++ q) = playJ (playJ l p) q := by unfold playJ; rw [List.foldl_append]
def AllRight (l : List Rel) : Prop := ∀ r, r ∈ l → rightR r = true
theorem AllRight.map {l : List Rel} (h : AllRight l) : l.map heldR = l := by
  have e : l.map heldR = l.map id := List.map_congr_left fun r hr => heldR_of (h r hr)
  rw [e, List.map_id]
theorem AllRight.held (l : List Rel) : AllRight (l.map heldR) := fun r hr => by
  obtain ⟨x, _, rfl⟩ := List.mem_map.1 hr
  exact heldR_right x
theorem AllRight.set {l : List Rel} (h : AllRight l) {k : Nat} {r : Rel} (hr : rightR r = true) : AllRight (l.set k r) := fun x hx => by
  rcases List.mem_or_eq_of_mem_set hx with hx | rfl
  · exact h x hx
  · exact hr
theorem stepJ_right {l : List Rel} (h : AllRight l) (p : Int × Int) : AllRight (stepJ l p) := by
  unfold stepJ
  split
  · exact h.set (some_right (heldR_right _))
  · exact h
theorem playJ_right (prog : List (Int × Int)) : ∀ {l : List Rel}, AllRight l → AllRight (playJ l prog) := by
  induction prog with
  | nil => intro l h; exact h
  | cons p prog ih => intro l h; exact ih (stepJ_right h p)
/-- fewer rows, and none gone that takes part -/
structure Less (l' l : List Rel) : Prop where
  len : l'.length = l.length
  at' : ∀ i (h : i < l.length), ∃ Q : List Val → Bool, l'.getD i zR = ⟨(l.getD i zR).cols, (l.getD i zR).rows.filter Q⟩
  cons : ∀ t, consB t = true → t ∈ tupsR l → t ∈ tupsR l'
theorem all_kept (r : Rel) : r = ⟨r.cols, r.rows.filter fun _ => true⟩ := by
  have : r.rows.filter (fun _ => true) = r.rows := List.filter_eq_self.2 fun _ _ => rfl
  rw [this]
theorem Less.refl (l : List Rel) : Less l l := ⟨rfl, fun i h => ⟨fun _ => true, all_kept _⟩, fun t _ h => h⟩
theorem Less.trans {a b c : List Rel} (h : Less a b) (k : Less b c) : Less a c := by
  refine ⟨h.len.trans k.len, fun i hi => ?_, fun t hc ht => h.cons t hc (k.cons t hc ht)⟩
  obtain ⟨Q, hQ⟩ := h.at' i (by rw [k.len]; exact hi)
  obtain ⟨W, hW⟩ := k.at' i hi
  refine ⟨fun x => W x && Q x, ?_⟩
  rw [hQ, hW]
  simp [List.filter_filter, Bool.and_comm]
theorem getD_ltR {l : List Rel} {i : Nat} (h : i < l.length) : l.getD i zR = l[i] := by rw [List.getD_eq_getElem?_getD, List.getElem?_eq_getElem h]; rfl
theorem Less.cols {a b : List Rel} (h : Less a b) (i : Nat) : (a.getD i zR).cols = (b.getD i zR).cols := by
  rcases Nat.lt_or_ge i b.length with hi | hi
  · obtain ⟨Q, hQ⟩ := h.at' i hi
    rw [hQ]
  · rw [List.getD_eq_getElem?_getD, List.getD_eq_getElem?_getD, List.getElem?_eq_none hi, List.getElem?_eq_none (by rw [h.len]; exact hi)]
theorem Less.mem {a b : List Rel} (h : Less a b) {i : Nat} {x : List Val} (hx : x ∈ (a.getD i zR).rows) : x ∈ (b.getD i zR).rows := by
  rcases Nat.lt_or_ge i b.length with hi | hi
  · obtain ⟨Q, hQ⟩ := h.at' i hi
    rw [hQ] at hx
    exact (List.mem_filter.1 hx).1
  · rw [List.getD_eq_getElem?_getD, List.getElem?_eq_none (by rw [h.len]; exact hi)] at hx
    simp [zR] at hx
theorem tups_get {t : List Ent} {l : List Rel} (h : t ∈ tupsR l) {i : Nat} (hi : i < l.length) : ∃ x, x ∈ (l.getD i zR).rows ∧ t[i]? = some ((l.getD i zR).cols, x) := by
  obtain ⟨h1, h2⟩ := tups_mem.1 h
  obtain ⟨e1, e2⟩ := h2 i (by omega) hi
  rw [getD_ltR hi]
  exact ⟨_, e2, by rw [List.getElem?_eq_getElem (by omega), ← e1]⟩
theorem tups_of {t : List Ent} {l : List Rel} (h : t.length = l.length) (h2 : ∀ i, i < l.length → ∃ x, x ∈ (l.getD i zR).rows ∧ t[i]? = some ((l.getD i zR).cols, x)) : t ∈ tupsR l := by
  refine tups_mem.2 ⟨h, fun i hi hi' => ?_⟩
  obtain ⟨x, hx, hg⟩ := h2 i hi'
  rw [List.getElem?_eq_getElem hi, getD_ltR hi'] at hg
  rw [getD_ltR hi'] at hx
  rw [Option.some.inj hg]
  exact ⟨rfl, hx⟩
theorem getD_setR {l : List Rel} {i k : Nat} {r : Rel} (hk : k < l.length) : (l.set k r).getD i zR = if i = k then r else l.getD i zR := by
  rw [List.getD_eq_getElem?_getD, List.getD_eq_getElem?_getD, List.getElem?_set]
  by_cases h : k = i
  · subst h; simp [hk]
  · have : ¬ i = k := fun e => h e.symm
    simp [h, this]
theorem Less.tups {a b : List Rel} (h : Less a b) {t : List Ent} (ht : t ∈ tupsR a) : t ∈ tupsR b := by
  refine tups_of ((tups_mem.1 ht).1.trans h.len) fun i hi => ?_
  obtain ⟨x, hx, hg⟩ := tups_get ht (i := i) (by rw [h.len]; exact hi)
  exact ⟨x, h.mem hx, by rw [← h.cols]; exact hg⟩
theorem semi_less {l : List Rel} {i k : Nat} (hi : i < l.length) (hk : k < l.length) (hik : i ≠ k) : Less (l.set i (semiR (l.getD i zR) (l.getD k zR))) l := by
  refine ⟨by simp, fun j hj => ?_, fun t hc ht => ?_⟩
  · rw [getD_setR hi]
    by_cases h : j = i
    · subst h
      rw [if_pos rfl]
      exact ⟨_, rfl⟩
    · rw [if_neg h]
      exact ⟨fun _ => true, all_kept _⟩
  · refine tups_of (by rw [List.length_set]; exact (tups_mem.1 ht).1) fun j hj => ?_
    rw [List.length_set] at hj
    obtain ⟨x, hx, hg⟩ := tups_get ht hj
    rw [getD_setR hi]
    by_cases h : j = i
    · subst h
      rw [if_pos rfl]
      refine ⟨x, List.mem_filter.2 ⟨hx, ?_⟩, hg⟩
      obtain ⟨y, hy, hgy⟩ := tups_get ht hk
      have hp := consB_iff.1 hc
      rw [List.pairwise_iff_getElem] at hp
      have hl := (tups_mem.1 ht).1
      have hag : Agree ((l.getD j zR).cols, x) ((l.getD k zR).cols, y) := by
        rw [List.getElem?_eq_getElem (by omega)] at hg hgy
        have e1 := Option.some.inj hg
        have e2 := Option.some.inj hgy
        rw [← e1, ← e2]
        rcases Nat.lt_or_gt_of_ne hik with h | h
        · exact hp j k _ _ h
        · exact (hp k j _ _ h).symm
      simp only [beq_true]
      exact List.any_eq_true.2 ⟨y, hy, meetB_iff.2 hag⟩
    · rw [if_neg h]
      exact ⟨x, hx, hg⟩
theorem held_getD {l : List Rel} (hr : AllRight l) (k : Nat) : heldR (l.getD k zR) = l.getD k zR := by
  rcases Nat.lt_or_ge k l.length with h | h
  · rw [getD_ltR h]; exact heldR_of (hr _ (List.getElem_mem h))
  · rw [List.getD_eq_getElem?_getD, List.getElem?_eq_none h]; exact heldR_of zero_right
theorem step_less {l : List Rel} (hr : AllRight l) (h : Int × Int) : Less (stepJ l h) l := by
  unfold stepJ
  split
  · rename_i hc
    rw [held_getD hr, held_getD hr]
    exact semi_less (by omega) (by omega) (by omega)
  · exact .refl l
theorem play_less (prog : List (Int × Int)) : ∀ {l : List Rel}, AllRight l → Less (playJ l prog) l := by
  induction prog with
  | nil => intro l _; exact .refl l
  | cons h prog ih => intro l hr; exact (ih (stepJ_right hr h)).trans (step_less hr h)
theorem colsL_getD (l : List Rel) {c : Int} : c ∈ colsL l ↔ ∃ i, i < l.length ∧ c ∈ (l.getD i zR).cols := by
  unfold colsL
  rw [setI_mem, List.mem_flatMap]
  constructor
  · rintro ⟨r, hr, hc⟩
    obtain ⟨i, hi, rfl⟩ := List.getElem_of_mem hr
    exact ⟨i, hi, by rw [getD_ltR hi]; exact hc⟩
  · rintro ⟨i, hi, hc⟩
    exact ⟨l[i], List.getElem_mem _, by rw [← getD_ltR hi]; exact hc⟩
theorem Less.same {a b : List Rel} (h : Less a b) : colsL a = colsL b := by
  refine rises_eq (setI_rises _) (setI_rises _) fun x => ?_
  show x ∈ colsL a ↔ x ∈ colsL b
  rw [colsL_getD, colsL_getD, h.len]
  simp only [h.cols]
/-- does a row take part? -/
def partB (l : List Rel) (i : Nat) (x : List Val) : Bool := decide (0 < (allJ (l.set i ⟨(l.getD i zR).cols, [x]⟩)).rows.length)
theorem partB_iff {l : List Rel} {i : Nat} (hi : i < l.length) {x : List Val} (hx : x ∈ (l.getD i zR).rows) : partB l i x = true ↔ ∃ t, t ∈ tupsR l ∧ consB t = true ∧ t[i]? = some ((l.getD i zR).cols, x) := by
  unfold partB
  rw [decide_eq_true_iff, allJ_rows, List.length_pos_iff, Ne, List.filterMap_eq_nil_iff]
  have hset : ∀ t : List Ent, t ∈ tupsR (l.set i ⟨(l.getD i zR).cols, [x]⟩) ↔ t ∈ tupsR l ∧ t[i]? = some ((l.getD i zR).cols, x) := fun t => by
    constructor
    · intro ht
      have hself := tups_get ht (i := i) (by simpa using hi)
      rw [getD_setR hi, if_pos rfl] at hself
      obtain ⟨y, hy, hg⟩ := hself
      obtain rfl : y = x := by simpa using hy
      refine ⟨tups_of (by simpa using (tups_mem.1 ht).1) fun j hj => ?_, hg⟩
      by_cases hji : j = i
      · subst hji; exact ⟨y, hx, hg⟩
      · have := tups_get ht (i := j) (by simpa using hj)
        rwa [getD_setR hi, if_neg hji] at this
    · rintro ⟨ht, hg⟩
      refine tups_of (by simpa using (tups_mem.1 ht).1) fun j hj => ?_
      rw [List.length_set] at hj
      rw [getD_setR hi]
      by_cases hji : j = i
      · subst hji; rw [if_pos rfl]; exact ⟨x, List.mem_cons_self, hg⟩
      · rw [if_neg hji]; exact tups_get ht hj
  constructor
  · intro h
    by_cases hex : ∃ t, t ∈ tupsR l ∧ consB t = true ∧ t[i]? = some ((l.getD i zR).cols, x)
    · exact hex
    · exfalso
      apply h
      intro t ht
      obtain ⟨h1, h2⟩ := (hset t).1 ht
      unfold rowT
      rw [if_neg fun hc => hex ⟨t, h1, hc, h2⟩]
  · rintro ⟨t, h1, h2, h3⟩ h
    have := h t ((hset t).2 ⟨h1, h3⟩)
    unfold rowT at this
    rw [if_pos h2] at this
    cases this
/-- the rows that take part -/
def fullJ (l : List Rel) (i : Nat) : Rel := ⟨(l.getD i zR).cols, (l.getD i zR).rows.filter (partB l i)⟩
theorem less_full {a b : List Rel} (h : Less a b) {i : Nat} (hi : i < b.length) : fullJ a i = fullJ b i := by
  unfold fullJ
  obtain ⟨Q, hQ⟩ := h.at' i hi
  have hia : i < a.length := by rw [h.len]; exact hi
  have key : ∀ x, x ∈ (b.getD i zR).rows → (partB b i x = true ↔ Q x = true ∧ partB a i x = true) := fun x hx => by
    rw [partB_iff hi hx]
    constructor
    · rintro ⟨t, h1, h2, h3⟩
      have h4 := h.cons t h2 h1
      obtain ⟨y, hy, hg⟩ := tups_get h4 hia
      rw [h3, h.cols] at hg
      have e : x = y := (Prod.mk.inj (Option.some.inj hg)).2
      subst e
      refine ⟨?_, (partB_iff hia hy).2 ⟨t, h4, h2, by rw [h.cols]; exact h3⟩⟩
      rw [hQ] at hy
      exact (List.mem_filter.1 hy).2
    · rintro ⟨hq, hp⟩
      have hy : x ∈ (a.getD i zR).rows := by rw [hQ]; exact List.mem_filter.2 ⟨hx, hq⟩
      obtain ⟨t, h1, h2, h3⟩ := (partB_iff hia hy).1 hp
      exact ⟨t, h.tups h1, h2, by rw [← h.cols]; exact h3⟩
  rw [h.cols]
  congr 1
  rw [hQ]
  dsimp only
  rw [List.filter_filter]
  apply List.filter_congr
  intro x hx
  rw [Bool.eq_iff_iff, Bool.and_eq_true, key x hx, and_comm]
theorem play_full (prog : List (Int × Int)) {l : List Rel} (hr : AllRight l) {i : Nat} (hi : i < l.length) : fullJ (playJ l prog) i = fullJ l i := less_full (play_less prog hr) hi
end Go.Proofs.YtjplcdeaedflpaaGreatDoor.PL
namespace Go.Proofs.YtjplcdeaedflpaaGreatDoor.PL
open Go.Proofs
set_option linter.unusedVariables false
set_option linter.unusedSimpArgs false
theorem vals_self {cols : List Int} {x : List Val} (hn : cols.Pairwise (· < ·)) (hl : x.length = cols.length) : (cols.map fun c => pickF x (idxF cols c)) = x := by
  have hnd : cols.Nodup := hn.imp fun h => by omega
  apply List.ext_getElem
  · simp [hl]
  · intro i h1 h2
    rw [List.getElem_map]
    have hi : i < cols.length := by omega
    obtain ⟨j, hj, e1, e2⟩ := idxF_at (List.getElem_mem hi)
    have : j = i := (List.getElem_inj hnd).1 e1
    subst this
    rw [e2, pickF_in h2]
theorem setI_self4 {l : List Int} (h : l.Pairwise (· < ·)) : setI l = l := rises_eq (setI_rises l) h fun x => setI_mem
theorem join_unit {r : Rel} (h : rightR r = true) : joinR ⟨[], [[]]⟩ r = r := by
  have hc : colsJ ⟨[], [[]]⟩ r = r.cols := by unfold colsJ; rw [List.nil_append]; exact setI_self4 (rightR_rises h)
  unfold joinR rowsJ rowJ
  rw [hc]
  have hm : ∀ y, meetB ⟨[], [[]]⟩ r [] y = true := fun y => meetB_iff.2 fun c h => by cases h
  have hf : r.rows.filter (fun y => meetB ⟨[], [[]]⟩ r [] y) = r.rows := List.filter_eq_self.2 fun y _ => hm y
  rw [List.flatMap_cons, List.flatMap_nil, List.append_nil, hf]
  have e : r.rows.map (fun y => r.cols.map (cellJ ⟨[], [[]]⟩ r [] y)) = r.rows.map id := by
    apply List.map_congr_left
    intro y hy
    have : r.cols.map (cellJ ⟨[], [[]]⟩ r [] y) = r.cols.map fun c => pickF y (idxF r.cols c) := by
      apply List.map_congr_left
      intro c _
      rfl
    rw [this, vals_self (rightR_rises h) (rightR_row h hy)]
    rfl
  rw [e, List.map_id]
theorem allJ_one {r : Rel} (h : rightR r = true) : allJ [r] = r := join_unit h
theorem allJ_right (l : List Rel) : rightR (allJ l) = true := by
  rcases List.eq_nil_or_concat l with rfl | ⟨l, r, rfl⟩
  · decide
  · rw [List.concat_eq_append, allJ_snoc]; exact join_right _ _
/-- the product of all rows, and one each -/
def prodR : List Rel → Nat
  | [] => 1
  | r :: l => (r.rows.length + 1) * prodR l
theorem prodR_pos : ∀ l : List Rel, 0 < prodR l
  | [] => by simp [prodR]
  | r :: l => Nat.mul_pos (by omega) (prodR_pos l)
theorem flat_le {α β : Type} {f : α → List β} {k : Nat} : ∀ {l : List α}, (∀ x, x ∈ l → (f x).length ≤ k) → (l.flatMap f).length ≤ l.length * k
  | [], _ => by simp
  | a :: l, h => by
    have h1 := h a List.mem_cons_self
    have h2 := flat_le (f := f) (k := k) fun x hx => h x (List.mem_cons_of_mem _ hx)
    rw [List.flatMap_cons, List.length_append, List.length_cons, Nat.add_mul]
    omega
theorem tups_len : ∀ l : List Rel, (tupsR l).length ≤ prodR l
  | [] => by simp [tupsR, prodR]
  | r :: l => by
    have ih := tups_len l
    have h1 : (tupsR (r :: l)).length ≤ r.rows.length * (tupsR l).length :=
      flat_le (f := fun x => (tupsR l).map fun t => (r.cols, x) :: t) fun x _ => by rw [List.length_map]; exact Nat.le_refl _
    have h2 : r.rows.length * (tupsR l).length ≤ (r.rows.length + 1) * prodR l := Nat.mul_le_mul (by omega) ih
    show _ ≤ (r.rows.length + 1) * prodR l
    omega
theorem allJ_len (l : List Rel) : (allJ l).rows.length ≤ prodR l := by
  rw [allJ_rows]
  exact Nat.le_trans (List.length_filterMap_le ..) (tups_len l)
theorem prodR_perm {l l' : List Rel} (h : l.Perm l') : prodR l = prodR l' := by
  induction h with
  | nil => rfl
  | cons r _ ih => show _ * prodR _ = _ * prodR _; rw [ih]
  | swap r s l => show _ * (_ * prodR _) = _ * (_ * prodR _); rw [Nat.mul_left_comm]
  | trans _ _ h1 h2 => exact h1.trans h2
theorem prodR_take (l : List Rel) : ∀ k, prodR (l.take k) ≤ prodR l := by
  induction l with
  | nil => intro k; simp
  | cons r l ih =>
    intro k
    cases k with
    | zero => exact prodR_pos _
    | succ k => exact Nat.mul_le_mul_left _ (ih k)
theorem held_rows (r : Rel) : (heldR r).rows.length ≤ r.rows.length := by unfold heldR; split <;> simp [zR]
theorem held_cols (r : Rel) : (heldR r).cols.length ≤ r.cols.length := by unfold heldR; split <;> simp [zR]
theorem prodR_held (l : List Rel) : prodR (l.map heldR) ≤ prodR l := by
  induction l with
  | nil => exact Nat.le_refl _
  | cons r l ih =>
    have := held_rows r
    exact Nat.mul_le_mul (by omega) ih
/-- what is asked of some in the proofs -/
structure OkL (l : List Rel) : Prop where
  ok : ∀ r, r ∈ l → OkR r
  nc : ∀ r, r ∈ l → r.cols.length ≤ 20
  len : l.length ≤ 40
  pr : prodR l ≤ 100000
theorem OkL.take {l : List Rel} (h : OkL l) (k : Nat) : OkL (l.take k) :=
  ⟨fun r hr => h.ok r (List.mem_of_mem_take hr), fun r hr => h.nc r (List.mem_of_mem_take hr), by have := h.len; rw [List.length_take]; omega, Nat.le_trans (prodR_take l k) h.pr⟩
theorem OkL.held {l : List Rel} (h : OkL l) : OkL (l.map heldR) := by
  refine ⟨fun r hr => ?_, fun r hr => ?_, by simpa using h.len, Nat.le_trans (prodR_held l) h.pr⟩
  · obtain ⟨x, hx, rfl⟩ := List.mem_map.1 hr
    exact heldR_ok (h.ok x hx)
  · obtain ⟨x, hx, rfl⟩ := List.mem_map.1 hr
    exact Nat.le_trans (held_cols x) (h.nc x hx)
theorem colsL_len {l : List Rel} (h : OkL l) : (colsL l).length ≤ 800 := by
  have h1 := setI_len (l.flatMap Rel.cols)
  have h2 := flat_le (f := Rel.cols) (k := 20) (l := l) h.nc
  have h3 := h.len
  unfold colsL
  omega
theorem OkL.all {l : List Rel} (h : OkL l) : OkR (allJ l) := by
  refine ⟨?_, ?_, fun x hx => ?_⟩
  · have := colsL_len h
    rw [allJ_cols]; omega
  · have := allJ_len l
    have := h.pr
    omega
  · have hlen := colsL_len h
    rw [allJ_rows, List.mem_filterMap] at hx
    obtain ⟨t, ht, hx⟩ := hx
    unfold rowT at hx
    split at hx
    · cases hx
      refine ⟨by rw [List.length_map]; omega, fun v hv => ?_⟩
      obtain ⟨c, _, rfl⟩ := List.mem_map.1 hv
      have key : valT t c = zV4 ∨ ∃ e, e ∈ t ∧ valT t c ∈ e.2 := by
        unfold valT
        cases hf : t.find? (fun e => decide (c ∈ e.1)) with
        | none => exact .inl rfl
        | some e =>
          rcases pickF_mem (r := e.2) (p := idxF e.1 c) with h1 | h1
          · exact .inl h1
          · exact .inr ⟨e, List.mem_of_find?_eq_some hf, h1⟩
      rcases key with e | ⟨e, he, hm⟩
      · rw [e]; simp [zV4]
      · obtain ⟨h1, h2⟩ := tups_mem.1 ht
        obtain ⟨i, hi, rfl⟩ := List.getElem_of_mem he
        have := (h2 i hi (by omega)).2
        exact ((h.ok _ (List.getElem_mem (show i < l.length by omega))).row _ this).2 _ hm
    · cases hx
theorem sharedI_len2 (a b : List Int) : (sharedI a b).length ≤ b.length := by
  refine nodup_le ?_ fun x hx => (sharedI_mem'.1 hx).2
  unfold sharedI
  exact ((setI_rises a).imp (fun h => by omega)).filter _
instance : Sized Rel.av 2 := ⟨fun _ => rfl⟩
abbrev rels' (l : List Rel) : List AV := avs Rel.av l
theorem take_held {l : List Rel} {i : Nat} (h : i < l.length) : (l.take (i + 1)).map heldR = (l.take i).map heldR ++ [heldR l[i]] := by rw [take_next h, List.map_append]; rfl
theorem OkL.step {l : List Rel} (h : OkL l) {i : Nat} (hi : i < l.length) : OkR (allJ ((l.take i).map heldR)) ∧ OkR l[i] ∧ (bothR (heldR (allJ ((l.take i).map heldR))) (heldR l[i])).length ≤ 40 ∧ joinR (heldR (allJ ((l.take i).map heldR))) (heldR l[i]) = allJ ((l.take (i + 1)).map heldR) := by
  have h1 := (h.take i).held.all
  have h2 := h.ok _ (List.getElem_mem hi)
  have h3 := h.nc _ (List.getElem_mem hi)
  refine ⟨h1, h2, ?_, ?_⟩
  · have := sharedI_len2 (heldR (allJ ((l.take i).map heldR))).cols (heldR l[i]).cols
    have := held_cols l[i]
    show (sharedI _ _).length ≤ 40
    omega
  · rw [take_held hi, allJ_snoc, heldR_of (allJ_right _)]
/-- the first ones together -/
def allH (l : List Rel) (i : Nat) : Rel := allJ ((l.take i).map heldR)
theorem allH_all (l : List Rel) : allH l l.length = allJ (l.map heldR) := by unfold allH; rw [List.take_length]
theorem OkL.stepH {l : List Rel} (h : OkL l) {i : Nat} (hi : i < l.length) : OkR (allH l i) ∧ OkR l[i] ∧ (bothR (heldR (allH l i)) (heldR l[i])).length ≤ 40 ∧ joinR (heldR (allH l i)) (heldR l[i]) = allH l (i + 1) := h.step hi
theorem allH_one {l : List Rel} (h : 0 < l.length) : allH l 1 = heldR l[0] := by
  have : allH l (0 + 1) = allJ ((l.take 0).map heldR ++ [heldR l[0]]) := by unfold allH; rw [take_held h]
  rw [this]
  exact allJ_one (heldR_right _)
def SA (l : List Rel) (i : Nat) (H : List HO) : Prop := ∃ c2 z J, c2.length = 2 ∧ H = .box c2 :: .box z :: J ∧ ((i = 0 ∧ z = [.sl .exact [], .sl .exact [.sl .nil []]]) ∨ (0 < i ∧ z = (allH l i).cs))
theorem Frz.oneNil {H : List HO} : Frz H (.agg [.sl .exact [], .sl .exact [.sl .nil []]]) (.agg [.sl .no [], .sl .no [.sl .no []]]) :=
  .agg (.cons (Frz.slN (f := AV.int .i64) (l := [])) (.cons (Frz.slosl (f := Val.av) (l := [(.nil, [])]) rfl) .nil))
theorem T_sall (l : List Rel) (h : OkL l) : T Tryz.prog 21 [.sl .no (rels' l)] (allJ (l.map heldR)).av := by
  have hlen := h.len
  rw [← allH_all]
  refine T.introF (TS.body mix Tryz.func21 (by kernel_rfl) rfl (by kernel_rfl) (by simp) ?_)
  simp
  refine vc_loop (fun i : Nat => l.length - i) (fun i e H => e 2 = .ptr 0 0 ∧ e 3 = .ptr 1 0 ∧ e 8 = .sl .no (rels' l) ∧ e 9 = .int .i64 l.length ∧ e 10 = .int .i64 i ∧ i ≤ l.length ∧ SA l i H) 0 ?_ ?_
  · simp
    exact ⟨_, _, _, rfl, rfl, .inl ⟨rfl, rfl⟩⟩
  rintro i e H ⟨e2, e3, e8, e9, e10, hi, c2, z, J, hc2, rfl, hz⟩
  by_cases hlt : i < l.length
  · have ew := wrap_next hlt (by omega)
    obtain ⟨s1, s2, s3, s4⟩ := h.stepH hlt
    have hok := heldR_ok s2
    have k1 := T_sheld l[i] s2
    have k2 := T_scopied (heldR l[i]).rows hok.nr fun x hx => by have := (hok.row x hx).1; omega
    have k3 := T_sjoin _ _ s1 s2 s3
    rw [s4] at k3
    simp [e2, e3, e8, e9, e10, hlt]
    rcases hz with ⟨h0, rfl⟩ | ⟨h0, rfl⟩
    · subst h0
      have h01 := allH_one hlt
      rw [← h01] at k1 k2
      simp [e2, e3, e8, e9, e10]
      refine TS.callW k1 (Dws.self (by simp)) ?_
      simp [e2, e3, e8, e9, e10]
      refine TS.callW k2 (Dws.self (by simp)) ?_
      simp [e2, e3, e8, e9, e10]
      exact ⟨1, by omega, ew, by omega, _, _, _, hc2, rfl, .inr ⟨by omega, rfl⟩⟩
    · have h0' : ¬ i = 0 := by omega
      simp [e2, e3, e8, e9, e10, h0']
      refine TS.callW k3 (Dws.self (by simp)) ?_
      simp [e2, e3, e8, e9, e10]
      exact ⟨i + 1, by omega, ew, by omega, _, _, _, hc2, rfl, .inr ⟨by omega, rfl⟩⟩
  · have : i = l.length := by omega
    subst this
    match c2, hc2 with
    | [u0, u1], _ =>
    rcases hz with ⟨h0, rfl⟩ | ⟨h0, rfl⟩
    · have e0 : l = [] := List.eq_nil_of_length_eq_zero h0
      subst e0
      simp [e2, e3, e8, e9, e10]
      exact Frz.oneNil
    · simp [e2, e3, e8, e9, e10]
      exact .agg (.cons (Frz.slN (f := AV.int .i64)) (.cons (Frz.slN (f := fun r => AV.sl .no (vals' r))) .nil))
theorem T_rall24 (l : List Rel) (h : OkL l) : T Tryz.prog 22 [.sl .no (rels' l)] (allJ (l.map heldR)).av := by
  have hlen := h.len
  rw [← allH_all]
  by_cases hl : l.length = 0
  · have e0 : l = [] := List.eq_nil_of_length_eq_zero hl
    subst e0
    refine T.introF (TS.body mix Tryz.func22 (by kernel_rfl) rfl (by kernel_rfl) (by simp) ?_)
    simp
    exact .agg (.cons (Frz.slN (f := AV.int .i64) (l := [])) (.cons (Frz.slosl (f := Val.av) (l := [(.exact, [])]) rfl) .nil))
  have h0 : 0 < l.length := by omega
  have hl' : ¬ (l.length : Int) = 0 := by omega
  have hl2 : ¬ l = [] := fun e => hl (by rw [e]; rfl)
  have k1 := T_rheld24 l[0] (h.ok _ (List.getElem_mem h0))
  rw [← allH_one h0] at k1
  refine T.introF (TS.body mix Tryz.func22 (by kernel_rfl) rfl (by kernel_rfl) (by simp) ?_)
  simp [hl, hl', hl2, h0]
  refine TS.callW k1 (Dws.self (by simp)) ?_
  simp
  refine vc_loop (fun i : Nat => l.length - i) (fun i e H => e 0 = .sl .no (rels' l) ∧ e 2 = .ptr 0 0 ∧ e 3 = .ptr 1 0 ∧ e 4 = .int .i64 i ∧ 1 ≤ i ∧ i ≤ l.length ∧ ∃ c2 : List AV, c2.length = 2 ∧ H = [.box c2, .box (allH l i).cs]) 1 ?_ ?_
  · simp
    omega
  rintro i e H ⟨e0, e2, e3, e4, hi1, hi, c2, hc2, rfl⟩
  by_cases hlt : i < l.length
  · have ew := wrap_next hlt (by omega)
    obtain ⟨s1, s2, s3, s4⟩ := h.stepH hlt
    have k3 := T_rjoin24 _ _ s1 s2
    rw [s4] at k3
    simp [e0, e2, e3, e4, hlt]
    refine TDK.callW k3 (Dws.self (by simp)) ?_
    simp [e0, e2, e3, e4]
    exact ⟨i + 1, by omega, ew, by omega, by omega, _, hc2, rfl, rfl, rfl⟩
  · have : i = l.length := by omega
    subst this
    match c2, hc2 with
    | [u0, u1], _ =>
    simp [e0, e2, e3, e4]
    exact .agg (.cons (Frz.slN (f := AV.int .i64)) (.cons (Frz.slN (f := fun r => AV.sl .no (vals' r))) .nil))
end Go.Proofs.YtjplcdeaedflpaaGreatDoor.PL
namespace Go.Proofs.YtjplcdeaedflpaaGreatDoor.PL
open Go.Proofs
set_option linter.unusedVariables false
set_option linter.unusedSimpArgs false
/-- more than is asked of some -/
def wideF : Nat → Nat → List Rel → Bool
  | _, _, [] => false
  | n, i, r :: l => muchR r || (decide (2000 < n * (r.rows.length + 1)) || decide (10 ≤ i)) || wideF (n * (r.rows.length + 1)) (i + 1) l
def wideL (l : List Rel) : Bool := wideF 1 0 l
theorem wideF_no : ∀ {l : List Rel} {n i : Nat}, wideF n i l = false → (∀ r, r ∈ l → muchR r = false) ∧ (l ≠ [] → n * prodR l ≤ 2000 ∧ i + l.length ≤ 10)
  | [], n, i, h => ⟨fun r hr => (List.not_mem_nil hr).elim, fun h => absurd rfl h⟩
  | r :: l, n, i, h => by
    unfold wideF at h
    simp only [Bool.or_eq_false_iff, decide_eq_false_iff_not] at h
    obtain ⟨⟨h1, h2, h3⟩, h4⟩ := h
    obtain ⟨i1, i2⟩ := wideF_no h4
    refine ⟨fun x hx => ?_, fun _ => ?_⟩
    · rcases List.mem_cons.1 hx with rfl | hx
      · exact h1
      · exact i1 x hx
    · by_cases hl : l = []
      · subst hl
        refine ⟨?_, by simp; omega⟩
        show n * ((r.rows.length + 1) * 1) ≤ 2000
        rw [Nat.mul_one]; omega
      · obtain ⟨j1, j2⟩ := i2 hl
        refine ⟨?_, by rw [List.length_cons]; omega⟩
        show n * ((r.rows.length + 1) * prodR l) ≤ 2000
        rw [← Nat.mul_assoc]; exact j1
theorem wideL_no {l : List Rel} (h : wideL l = false) (hi : ∀ r, r ∈ l → RelIn r) : OkL l ∧ prodR l ≤ 2000 ∧ l.length ≤ 10 := by
  obtain ⟨h1, h2⟩ := wideF_no h
  have hk : ∀ r, r ∈ l → OkR r ∧ r.cols.length ≤ 20 ∧ r.rows.length ≤ 30 := fun r hr => muchR_ok (h1 r hr) (hi r hr)
  by_cases hl : l = []
  · subst hl
    exact ⟨⟨fun r hr => (List.not_mem_nil hr).elim, fun r hr => (List.not_mem_nil hr).elim, by simp, by simp [prodR]⟩, by simp [prodR], by simp⟩
  · obtain ⟨h3, h4⟩ := h2 hl
    rw [Nat.one_mul] at h3
    exact ⟨⟨fun r hr => (hk r hr).1, fun r hr => (hk r hr).2.1, by omega, by omega⟩, h3, by omega⟩
theorem wide_next {l : List Rel} {n i : Nat} (h : i < l.length) : wideF n i (l.drop i) = (muchR l[i] || (decide (2000 < n * (l[i].rows.length + 1)) || decide (10 ≤ i)) || wideF (n * (l[i].rows.length + 1)) (i + 1) (l.drop (i + 1))) := by
  rw [List.drop_eq_getElem_cons h]; rfl
theorem T_rwide24 (l : List Rel) (hl : l.length < 4611686018427387904) (hi : ∀ r, r ∈ l → RelIn r) : T Tryz.prog 20 [.sl .no (rels' l)] (.bool (wideL l)) := by
  obtain ⟨W, hW⟩ : ∃ W, W = wideL l := ⟨_, rfl⟩
  rw [← hW]
  refine T.intro (TS.body mix Tryz.func20 (by kernel_rfl) rfl (by kernel_rfl) (by simp) ?_)
  simp
  refine vc_loop (fun i : Nat => l.length - i) (fun i e H => e 0 = .sl .no (rels' l) ∧ e 4 = .int .i64 i ∧ i ≤ l.length ∧ ∃ n : Nat, e 3 = .int .i64 n ∧ n ≤ 2000 ∧ W = wideF n i (l.drop i)) 0 ?_ ?_
  · simp
    exact ⟨1, by simp, by omega, hW⟩
  clear hW
  rintro i e H ⟨e0, e4, hi2, n, e3, hn, hw⟩
  by_cases hlt : i < l.length
  · have ew := wrap_next hlt (by omega)
    have hr := hi _ (List.getElem_mem hlt)
    have k1 := T_rmuch24 l[i] hr.nc hr.nr fun x hx v hv => ((hr.row x hx).2 v hv).2.2
    rw [wide_next hlt] at hw
    simp [e0, e3, e4, hlt]
    refine TS.callW k1 (Dws.self (by simp)) ?_
    cases hm : muchR l[i] with
    | true =>
      rw [hm] at hw
      simp [hw]
    | false =>
      obtain ⟨_, _, h30⟩ := muchR_ok hm hr
      have hp : n * (l[i].rows.length + 1) ≤ 2000 * 31 := Nat.mul_le_mul hn (by omega)
      rw [hm, Bool.false_or] at hw
      obtain ⟨m, hm2⟩ : ∃ m, m = n * (l[i].rows.length + 1) := ⟨_, rfl⟩
      have e2 : IntKind.i64.wrap ((n : Int) * ((l[i].rows.length : Int) + 1)) = (m : Int) := by
        have : (n : Int) * ((l[i].rows.length : Int) + 1) = (m : Int) := by rw [hm2, Int.natCast_mul]; rfl
        rw [this, wrap_i64 (by omega) (by omega)]
      have e1 : IntKind.i64.wrap ((l[i].rows.length : Int) + 1) = (l[i].rows.length : Int) + 1 := wrap_i64 (by omega) (by omega)
      rw [← hm2] at hp hw
      simp [e0, e3, e4, hlt, e1, e2]
      refine condK_of (fun c => ?_) (fun c => ?_)
      · simp at c
        have : W = true := by
          rw [hw, Bool.or_eq_true, Bool.or_eq_true, decide_eq_true_iff, decide_eq_true_iff]
          left; omega
        simp [this]
      · simp at c
        simp [e0, e3, e4, e1, e2]
        refine ⟨i + 1, by omega, ew, by omega, m, rfl, by omega, ?_⟩
        rw [hw, decide_eq_false (by omega), decide_eq_false (by omega)]
        rfl
  · have : i = l.length := by omega
    subst this
    rw [List.drop_of_length_le (Nat.le_refl _)] at hw
    simp [e0, e3, e4, hw, wideF]
theorem Rel_in2 {cs : List AV} (h : Sh Tryz.prog 25 cs) : ∃ r : Rel, cs = r.cs ∧ RelIn r := by
  have hrl := reach_lt
  obtain ⟨hl, hf⟩ := h.struct_of ft_25
  obtain ⟨x, y, rfl⟩ : ∃ x y, cs = [x, y] := by
    match cs, hl with
    | [x, y], _ => exact ⟨x, y, rfl⟩
  obtain ⟨l, h1, hn⟩ := ints_in (hf (22, 0, 1) (by simp))
  obtain ⟨zs, h3, hz, hzl⟩ := (hf (23, 1, 1) (by simp)).sl_of un_23 ag_59
  simp at h1 h3
  subst h1; subst h3
  obtain ⟨rows, er, elr, hrow⟩ := list_in (f := rowA) (g := mkAV false) (Q := fun r => r.length < 4611686018427387904 ∧ ∀ v, v ∈ r → valIn v) (fun z hz' => by
    obtain ⟨l, e, hv, hlen⟩ := vals_in (hz z hz')
    exact ⟨l, by rw [e]; rfl, hlen, hv⟩)
  have b2 : 1 ≤ Tryz.prog.bytesOf 59 := by decide +kernel
  have m2 := Nat.mul_le_mul_left zs.length b2
  exact ⟨⟨l, rows⟩, by rw [er]; rfl, hn.2, by show rows.length < _; omega, hrow⟩
end Go.Proofs.YtjplcdeaedflpaaGreatDoor.PL
namespace Go.Proofs.YtjplcdeaedflpaaGreatDoor.PL
open Go.Proofs
set_option linter.unusedVariables false
set_option linter.unusedSimpArgs false
theorem rels_in {cs : List AV} (h : Sh Tryz.prog 31 cs) : ∃ l : List Rel, cs = [.sl .no (rels' l)] ∧ (∀ r, r ∈ l → RelIn r) ∧ l.length < 4611686018427387904 := by
  obtain ⟨ys, rfl, hy, b⟩ := h.sl_of un_31 ag_25
  obtain ⟨l, e, el, hl⟩ := list_in (f := Rel.av) (g := mkAV true) (Q := RelIn) (fun y hy' => by
    obtain ⟨r, e, hr⟩ := Rel_in2 (hy y hy')
    exact ⟨r, by rw [e]; rfl, hr⟩)
  have hb : 1 ≤ Tryz.prog.bytesOf 25 := by decide +kernel
  have hr := reach_lt
  have := Nat.mul_le_mul_left ys.length hb
  exact ⟨l, by rw [e]; rfl, hl, by omega⟩
end Go.Proofs.YtjplcdeaedflpaaGreatDoor.PL
namespace Go.Proofs.YtjplcdeaedflpaaGreatDoor.PL
open Go.Proofs Go.RowKit
set_option linter.unusedVariables false
set_option linter.unusedSimpArgs false
instance : Plain Rel.av := ⟨fun x => by simp [AV.pl, AV.pls]⟩
instance : Selfs Rel.av := ⟨fun a x h => by simp at h; rcases h with rfl | rfl <;> simp⟩
def OJ (r : Rel) (i : Nat) (H : List HO) : Prop := ∃ c1 x L, c1.length = 2 ∧ H = .box r.cs :: .box c1 :: .box [.sl .no (ints' r.cols), x] :: L ∧ GrowX 3 1 L x (rows' (r.rows.take i))
theorem T_rdOwn (r : Rel) (hr : OkR r) : T Tryz.prog 69 [r.av] r.av := by
  have hnc := hr.nc
  have hnr := hr.nr
  have k1 := T_cloneI4 r.cols (by omega)
  refine T.introF (TS.body mix Tryz.func69 (by kernel_rfl) rfl (by kernel_rfl) (by simp) ?_)
  simp
  refine TS.callW k1 (Dws.self (by simp)) ?_
  simp
  refine vc_loop (fun i : Nat => r.rows.length - i) (fun i e H => e 2 = .ptr 1 0 ∧ e 3 = .ptr 2 0 ∧ e 11 = .sl .no (rows' r.rows) ∧ e 12 = .int .i64 r.rows.length ∧ e 13 = .int .i64 i ∧ i ≤ r.rows.length ∧ OJ r i H) 0 ?_ ?_
  · simp
    exact ⟨_, _, _, rfl, rfl, .inl ⟨by simp, .inr rfl⟩⟩
  rintro i e H ⟨e2, e3, e11, e12, e13, hi, c1, x, L, hc1, rfl, hg⟩
  by_cases hlt : i < r.rows.length
  · have ew := wrap_next hlt (by omega)
    have hrow := hr.row _ (List.getElem_mem hlt)
    have k2 := T_cloneV4 r.rows[i] (by omega)
    have hnx : r.rows.take (i + 1) = r.rows.take i ++ [r.rows[i]] := take_next hlt
    have hml : (r.rows.take i).length = i := by simp; omega
    simp [e2, e3, e11, e12, e13, hlt]
    refine TDK.callW k2 (Dws.self (by simp)) ?_
    rcases hg with ⟨ge, zx⟩ | ⟨t, rfl, ht⟩
    · rw [avs_eq_nil] at ge
      have ex := GrowX.ex0 zx
      simp [e2, e3, e11, e12, e13, hlt, ex]
      refine ⟨i + 1, by omega, ew, by omega, c1, _, _, hc1, rfl, ?_⟩
      rw [hnx]
      exact GrowX.first (f := fun r => AV.sl .no (vals' r)) ge rfl
    · have hw := ht
      simp only [avs_length] at hw
      simp [e2, e3, e11, e12, e13, hlt, hw]
      refine ⟨by omega, i + 1, by omega, ew, by omega, c1, _, _, hc1, rfl, ?_⟩
      rw [hnx]
      exact GrowX.more (f := fun r => AV.sl .no (vals' r)) ht (by omega)
  · have : i = r.rows.length := by omega
    subst this
    rw [List.take_length] at hg
    obtain ⟨own, rfl⟩ := hg.own
    match c1, hc1 with
    | [u0, u1], _ =>
    simp [e2, e3, e11, e12, e13]
    exact .agg (.cons (Frz.slN (f := AV.int .i64)) (.cons (Frz.slN (f := fun r => AV.sl .no (vals' r))) .nil))
/-- a row of relations, in memory -/
def RelRow (H : List HO) (c : AV) (l : List Rel) : Prop := (l = [] ∧ (c = .sl .nil [] ∨ c = .sl .exact [])) ∨ 0 < l.length ∧ ∃ t, c = .mv t l.length 2 0 l.length ∧ H[t]? = some (.row l.length 2 ((rels' l).flatMap AV.cells))
theorem S_thereP (H : List HO) (k : Nat) (c : AV) (l : List Rel) (i : Int) (hk : H[k]? = some (.box [c])) (hc : RelRow H c l) : TS Tryz.prog 70 [.int .i64 i, .ptr k 0] H (pt (.bool (decide (0 ≤ i ∧ i < l.length))) H) := by
  refine TS.body mix Tryz.func70 (by kernel_rfl) rfl (by kernel_rfl) (by simp) ?_
  rcases hc with ⟨rfl, rfl | rfl⟩ | ⟨h0, t, rfl, ht⟩
  · simp [hk]
  · simp [hk]
  · simp [hk]
/-- what is asked of some in the proofs of programs -/
structure OkP (l : List Rel) : Prop where
  ok : ∀ r, r ∈ l → OkR r
  nc : ∀ r, r ∈ l → r.cols.length ≤ 20
  len : l.length ≤ 40
theorem OkL.okP {l : List Rel} (h : OkL l) : OkP l := ⟨h.ok, h.nc, h.len⟩
theorem OkP.getD {l : List Rel} (h : OkP l) (k : Nat) : OkR (l.getD k zR) ∧ (l.getD k zR).cols.length ≤ 20 := by
  rcases Nat.lt_or_ge k l.length with hk | hk
  · rw [getD_ltR hk]; exact ⟨h.ok _ (List.getElem_mem hk), h.nc _ (List.getElem_mem hk)⟩
  · rw [List.getD_eq_getElem?_getD, List.getElem?_eq_none hk]; exact ⟨.zero, by simp [zR]⟩
theorem OkP.step {l : List Rel} (h : OkP l) (p : Int × Int) : OkP (stepJ l p) := by
  unfold stepJ
  split
  · have h1 := h.getD p.1.toNat
    refine ⟨fun r hr => ?_, fun r hr => ?_, by simpa using h.len⟩
    · rcases List.mem_or_eq_of_mem_set hr with hr | rfl
      · exact h.ok r hr
      · exact someR_ok (heldR_ok h1.1)
    · rcases List.mem_or_eq_of_mem_set hr with hr | rfl
      · exact h.nc r hr
      · exact Nat.le_trans (held_cols _) h1.2
  · exact h
theorem OkP.play {prog : List (Int × Int)} : ∀ {l : List Rel}, OkP l → OkP (playJ l prog) := by
  induction prog with
  | nil => intro l h; exact h
  | cons p prog ih => intro l h; exact ih (h.step p)
theorem play_next (l : List Rel) {prog : List (Int × Int)} {i : Nat} (h : i < prog.length) : playJ l (prog.take (i + 1)) = stepJ (playJ l (prog.take i)) prog[i] := by rw [take_next h, playJ_snoc]
def PJ1 (l : List Rel) (i : Nat) (H : List HO) : Prop := ∃ c L, H = .box [c] :: L ∧ RelRow H c (l.take i)
def PJ2 (R : List Rel) (H : List HO) : Prop := ∃ c L, H = .box [c] :: L ∧ RelRow H c R
theorem T_rdPlay (l : List Rel) (prog : List (Int × Int)) (h : OkP l) (hp : prog.length ≤ 1000000) : T Tryz.prog 31 [.sl .no (rels' l), .sl .no (halves' prog)] (.sl .no (rels' (playJ l prog))) := by
  have hlen := h.len
  refine T.introF (TS.bodyM [21] mix Tryz.func31 (by kernel_rfl) rfl (by kernel_rfl) (by simp) ?_)
  simp
  refine vc_loop (fun i : Nat => l.length - i) (fun i e H => e 1 = .sl .no (halves' prog) ∧ e 5 = .ptr 0 0 ∧ e 11 = .sl .no (rels' l) ∧ e 12 = .int .i64 l.length ∧ e 13 = .int .i64 i ∧ i ≤ l.length ∧ PJ1 l i H) 0 ?_ ?_
  · simp
    exact ⟨_, _, rfl, .inl ⟨by simp, .inr rfl⟩⟩
  · rintro i e H ⟨e1, e5, e11, e12, e13, hi, c, L, rfl, hg⟩
    by_cases hlt : i < l.length
    · have ew := wrap_next hlt (by omega)
      have k1 := T_rdOwn l[i] (h.ok _ (List.getElem_mem hlt))
      have hnx : l.take (i + 1) = l.take i ++ [l[i]] := take_next hlt
      have hml : (l.take i).length = i := by simp; omega
      simp [e1, e5, e11, e12, e13, hlt]
      refine TDK.callW k1 (Dws.self (by simp)) ?_
      rcases hg with ⟨ge, zx⟩ | ⟨_, t, rfl, ht⟩
      · have ex := GrowX.ex0 zx
        simp [e1, e5, e11, e12, e13, hlt, ex]
        refine ⟨i + 1, by omega, ew, by omega, _, _, rfl, .inr ⟨by rw [List.length_take]; omega, L.length + 1 + 1, ?_, ?_⟩⟩
        · rw [hnx, ge]; rfl
        · rw [hnx, ge]; simp
      · cases t with
        | zero => simp at ht
        | succ s =>
        simp only [List.getElem?_cons_succ] at ht
        have hsl := (List.getElem?_eq_some_iff.1 ht).1
        rw [hml] at ht
        have ht2 : ∀ Y : List HO, (L ++ Y)[s]? = some (.row i 2 ((rels' (l.take i)).flatMap AV.cells)) := fun Y => by rw [List.getElem?_append_left hsl]; exact ht
        have hl1 : (l.take (i + 1)).length = i + 1 := by rw [hnx, List.length_append, hml]; rfl
        simp [e1, e5, e11, e12, e13, hlt, hml, ht2]
        refine ⟨by omega, i + 1, by omega, ew, by omega, _, _, rfl, .inr ⟨by omega, s + 1, ?_, ?_⟩⟩
        · rw [hl1]
        · rw [hl1, hnx, List.getElem?_cons_succ, List.getElem?_set_self (by simp; omega)]
          rw [show rels' (l.take i ++ [l[i]]) = rels' (l.take i) ++ [l[i].av] from List.map_append .., List.flatMap_append]
          rfl
    · have : i = l.length := by omega
      subst this
      rw [List.take_length] at hg
      simp [e1, e5, e11, e12, e13, hlt]
      refine vc_loop (fun i : Nat => prog.length - i) (fun i e H => e 5 = .ptr 0 0 ∧ e 8 = .fn (.func 70) [] [.ptr 0 0] ∧ e 24 = .sl .no (halves' prog) ∧ e 25 = .int .i64 prog.length ∧ e 26 = .int .i64 i ∧ i ≤ prog.length ∧ PJ2 (playJ l (prog.take i)) H) 0 ?_ ?_
      · simp [e5]
        exact ⟨c, L, rfl, hg⟩
      clear hg c L e1 e5 e11 e12 e13 hi hlt
      rintro i e H ⟨e5, e8, e24, e25, e26, hi, c, L, rfl, hg⟩
      have hok := h.play (prog := prog.take i)
      have hRl : (playJ l (prog.take i)).length = l.length := playJ_len _ _
      by_cases hlt : i < prog.length
      · have ew := wrap_next hlt (by omega)
        have hnx := play_next l hlt
        obtain ⟨p, hpp⟩ : ∃ p, p = prog[i] := ⟨_, rfl⟩
        rw [← hpp] at hnx
        obtain ⟨R, hR⟩ : ∃ R, R = playJ l (prog.take i) := ⟨_, rfl⟩
        rw [← hR] at hnx hg hok hRl
        have hx : RelRow (.box [c] :: (L ++ [.box [.int .i64 p.1, .int .i64 p.2]])) c R := by
          rcases hg with h | ⟨h0, t, h1, h2⟩
          · exact .inl h
          · refine .inr ⟨h0, t, h1, ?_⟩
            have := (List.getElem?_eq_some_iff.1 h2).1
            rw [← List.cons_append, List.getElem?_append_left this]
            exact h2
        have st := fun j => S_thereP (.box [c] :: (L ++ [.box [.int .i64 p.1, .int .i64 p.2]])) 0 c R j rfl hx
        obtain ⟨p1, p2⟩ := p
        dsimp only at st hx
        simp [e5, e8, e24, e25, e26, hlt, ← hpp]
        by_cases hc : p1 ≠ p2 ∧ 0 ≤ p1 ∧ p1 < R.length ∧ 0 ≤ p2 ∧ p2 < R.length
        · obtain ⟨a1, a2, a3, a4, a5⟩ := hc
          have hst : stepJ R (p1, p2) = R.set p1.toNat (semiR (heldR (R.getD p1.toNat zR)) (heldR (R.getD p2.toNat zR))) := if_pos ⟨a1, a2, a3, a4, a5⟩
          rw [hst] at hnx
          obtain ⟨T, rfl⟩ := Int.eq_ofNat_of_zero_le a2
          obtain ⟨B, rfl⟩ := Int.eq_ofNat_of_zero_le a4
          rw [Int.toNat_natCast, Int.toNat_natCast] at hnx
          have hTl : T < R.length := by omega
          have hBl : B < R.length := by omega
          rw [getD_ltR hTl, getD_ltR hBl] at hnx
          have s1 := st T
          have s2 := st B
          rw [decide_eq_true ⟨a2, a3⟩] at s1
          rw [decide_eq_true ⟨a4, a5⟩] at s2
          have a1' : ¬ T = B := fun h => a1 (by rw [h])
          have hk := T_semijoin R[T] R[B] (hok.ok _ (List.getElem_mem hTl)) (hok.ok _ (List.getElem_mem hBl)) (by have := hok.nc _ (List.getElem_mem hTl); omega)
          obtain ⟨z, hz⟩ : ∃ z, z = semiR (heldR R[T]) (heldR R[B]) := ⟨_, rfl⟩
          have hz' : someR (heldR R[T]) (heldR R[B]) true = z := hz.symm
          rw [hz'] at hk
          rw [← hz] at hnx
          rw [show (!decide ((T : Int) = (B : Int))) = true by rw [Bool.not_eq_true', decide_eq_false_iff_not]; exact a1]
          refine GTK.yes (s1.mono ?_)
          rintro r' H' ⟨rfl, rfl⟩
          simp [a1', e5, e8, e24, e25, e26]
          refine GTK.yes (s2.mono ?_)
          rintro r' H' ⟨rfl, rfl⟩
          rcases hx with ⟨h0, _⟩ | ⟨h0, t, rfl, ht⟩
          · rw [h0] at hTl; cases hTl
          have f1 : (((rels' R).flatMap AV.cells).drop (T * 2)).take 2 = R[T].cs := flatA_at (f := Rel.av) (sz := 2) R hTl
          have f2 : (((rels' R).flatMap AV.cells).drop (B * 2)).take 2 = R[B].cs := flatA_at (f := Rel.av) (sz := 2) R hBl
          have hml := flatA_len (f := Rel.av) (sz := 2) R
          rw [List.length_flatMap] at hml
          have q1 : ((rels' R).flatMap AV.cells).take (T * 2) ++ (z.av.cells ++ ((rels' R).flatMap AV.cells).drop (T * 2 + 2)) = (rels' (R.set T z)).flatMap AV.cells := flatA_put (f := Rel.av) (sz := 2) R hTl (k := 0) (new := z.av.cells) (a := z) (by simp) (by simp)
          cases t with
          | zero => simp at ht
          | succ s =>
          simp only [List.getElem?_cons_succ] at ht
          simp [a1', e5, e8, e24, e25, e26, ht, hTl, hBl]
          refine ⟨by rw [hml]; omega, by rw [hml]; omega, ?_⟩
          rw [f1, f2]
          refine TDK.callW hk (Dws.self (by simp)) ?_
          simp [a1', e5, e8, e24, e25, e26, ht, hTl, hBl]
          have hll : (R.set T z).length = R.length := List.length_set
          refine ⟨by rw [hml]; omega, i + 1, by omega, ew, by omega, _, _, rfl, .inr ⟨by rw [hnx, hll]; exact h0, s + 1, by rw [hnx, hll], ?_⟩⟩
          rw [hnx, hll, List.getElem?_cons_succ, List.getElem?_set_self (List.getElem?_eq_some_iff.1 ht).1, ← q1]
          rfl
        · have hst : stepJ R (p1, p2) = R := if_neg hc
          rw [hst, hR] at hnx
          refine GTK.inv (r := .bool (decide (0 ≤ p1 ∧ p1 < R.length))) (fun H' => H' = HO.box [c] :: (L ++ [HO.box [.int .i64 p1, .int .i64 p2]])) (fun _ => st p1) rfl ?_
          rintro H' rfl
          simp [e5, e8, e24, e25, e26]
          refine ⟨fun b1 b2 b3 => ⟨b1, b2, b3⟩, ?_⟩
          refine GTK.inv (r := .bool (decide (0 ≤ p2 ∧ p2 < R.length))) (fun H' => H' = HO.box [c] :: (L ++ [HO.box [.int .i64 p1, .int .i64 p2]])) (fun _ => st p2) rfl ?_
          rintro H' rfl
          simp [e5, e8, e24, e25, e26]
          refine condK_of (fun hc2 => ?_) (fun hc2 => ?_)
          · simp at hc2
            exact absurd ⟨hc2.1.1, hc2.1.2.1, hc2.1.2.2, hc2.2.1, hc2.2.2⟩ hc
          · simp [e5, e8, e24, e25, e26]
            exact ⟨i + 1, by omega, ew, by omega, c, _, rfl, by rw [hnx, ← hR]; exact hx⟩
      · have : i = prog.length := by omega
        subst this
        rw [List.take_length] at hg
        rcases hg with ⟨h0, rfl | rfl⟩ | ⟨h0, t, rfl, ht⟩
        · simp [e5, e8, e24, e25, e26, hlt]
          rw [h0]
          exact Frz.slN (f := Rel.av) (l := [])
        · simp [e5, e8, e24, e25, e26, hlt]
          rw [h0]
          exact Frz.slN (f := Rel.av) (l := [])
        · simp [e5, e8, e24, e25, e26, hlt]
          exact Frz.mvA (f := Rel.av) (sz := 2) ht (by simp)
end Go.Proofs.YtjplcdeaedflpaaGreatDoor.PL
namespace Go.Proofs.YtjplcdeaedflpaaGreatDoor.PL
open Go.Proofs
set_option linter.unusedVariables false
set_option linter.unusedSimpArgs false
/-- the way up from one is turned -/
def rerF (q l : List Int) : Nat → List Int
  | 0 => q
  | i + 1 => (rerF q l i).set (l.getD i 0).toNat (if i = 0 then -1 else l.getD (i - 1) 0)
def rerootI (q : List Int) (r : Int) : List Int := rerF q (upI q r) (upI q r).length
theorem rerF_len (q l : List Int) (i : Nat) : (rerF q l i).length = q.length := by
  induction i with
  | zero => rfl
  | succ i ih => rw [rerF, List.length_set, ih]
end Go.Proofs.YtjplcdeaedflpaaGreatDoor.PL
