/- Relations, in plain words: all together, in whatever order. -/
import Derived.Test.YtjplcdeaedflpaaDoorFRel9
namespace Go.Proofs.YtjplcdeaedflpaaDoor.PL
open Go.Proofs
set_option linter.unusedVariables false
set_option linter.unusedSimpArgs false
/-- a row, with its columns -/
abbrev Ent := List Int × List Val
def getE (e : Ent) (c : Int) : Val := pickF e.2 (idxF e.1 c)
def Agree (e f : Ent) : Prop := ∀ c, c ∈ e.1 → c ∈ f.1 → getE e c = getE f c ∧ okV (getE e c) = true
def agreeB (e f : Ent) : Bool := matchV (valsF e.1 e.2 (sharedI e.1 f.1)) (valsF f.1 f.2 (sharedI e.1 f.1))
theorem sharedI_mem' {a b : List Int} {c : Int} : c ∈ sharedI a b ↔ c ∈ a ∧ c ∈ b := by
  unfold sharedI
  rw [List.mem_filter, setI_mem]
  simp
theorem agreeB_iff {e f : Ent} : agreeB e f = true ↔ Agree e f := by
  unfold agreeB matchV valsF Agree
  rw [Bool.and_eq_true, decide_eq_true_iff, List.map_inj_left, List.all_eq_true]
  constructor
  · rintro ⟨h1, h2⟩ c hc hd
    have hm := sharedI_mem'.2 ⟨hc, hd⟩
    exact ⟨h1 c hm, h2 _ (List.mem_map.2 ⟨c, hm, rfl⟩)⟩
  · intro h
    refine ⟨fun c hc => (h c (sharedI_mem'.1 hc).1 (sharedI_mem'.1 hc).2).1, fun v hv => ?_⟩
    obtain ⟨c, hc, rfl⟩ := List.mem_map.1 hv
    exact (h c (sharedI_mem'.1 hc).1 (sharedI_mem'.1 hc).2).2
theorem meetB_agree {a b : Rel} {x y : List Val} : meetB a b x y = agreeB (a.cols, x) (b.cols, y) := rfl
theorem meetB_iff {a b : Rel} {x y : List Val} : meetB a b x y = true ↔ Agree (a.cols, x) (b.cols, y) := by rw [meetB_agree, agreeB_iff]
theorem Agree.symm {e f : Ent} (h : Agree e f) : Agree f e := fun c h1 h2 => by
  obtain ⟨h3, h4⟩ := h c h2 h1
  exact ⟨h3.symm, by rw [← h3]; exact h4⟩
def consB : List Ent → Bool
  | [] => true
  | e :: t => t.all (agreeB e) && consB t
theorem consB_iff : ∀ {t : List Ent}, consB t = true ↔ t.Pairwise Agree
  | [] => by simp [consB]
  | e :: t => by
    unfold consB
    rw [Bool.and_eq_true, List.all_eq_true, List.pairwise_cons, consB_iff]
    simp only [agreeB_iff]
def valT (t : List Ent) (c : Int) : Val := match t.find? (fun e => decide (c ∈ e.1)) with | some e => getE e c | none => zV4
def rowT (C : List Int) (t : List Ent) : Option (List Val) := if consB t = true then some (C.map (valT t)) else none
def tupsR : List Rel → List (List Ent)
  | [] => [[]]
  | r :: l => r.rows.flatMap fun x => (tupsR l).map fun t => (r.cols, x) :: t
def colsL (l : List Rel) : List Int := setI (l.flatMap Rel.cols)
def allJ (l : List Rel) : Rel := l.foldl joinR ⟨[], [[]]⟩
theorem pairs_same {t : List Ent} (h : t.Pairwise Agree) {e f : Ent} (he : e ∈ t) (hf : f ∈ t) {c : Int} (hc : c ∈ e.1) (hd : c ∈ f.1) : getE e c = getE f c := by
  induction t with
  | nil => cases he
  | cons a t ih =>
    rw [List.pairwise_cons] at h
    rcases List.mem_cons.1 he with he1 | he1 <;> rcases List.mem_cons.1 hf with hf1 | hf1
    · rw [he1, hf1]
    · subst he1; exact (h.1 f hf1 c hc hd).1
    · subst hf1; exact (h.1 e he1 c hd hc).1.symm
    · exact ih h.2 he1 hf1
theorem valT_mem {t : List Ent} (h : t.Pairwise Agree) {e : Ent} (he : e ∈ t) {c : Int} (hc : c ∈ e.1) : valT t c = getE e c := by
  unfold valT
  cases hf : t.find? (fun e => decide (c ∈ e.1)) with
  | none =>
    rw [List.find?_eq_none] at hf
    exact absurd (hf e he) (by simpa using hc)
  | some g =>
    have h1 := List.mem_of_find?_eq_some hf
    have h2 := List.find?_some hf
    exact pairs_same h h1 he (by simpa using h2) hc
theorem valT_none {t : List Ent} {c : Int} (h : ∀ e, e ∈ t → c ∉ e.1) : valT t c = zV4 := by
  unfold valT
  rw [List.find?_eq_none.2 fun e he => by simpa using h e he]
theorem valT_app {t s : List Ent} {c : Int} (h : ∃ e, e ∈ t ∧ c ∈ e.1) : valT (t ++ s) c = valT t c := by
  unfold valT
  rw [List.find?_append]
  cases hf : t.find? (fun e => decide (c ∈ e.1)) with
  | none =>
    rw [List.find?_eq_none] at hf
    obtain ⟨e, he, hc⟩ := h
    exact absurd (hf e he) (by simpa using hc)
  | some g => rfl
theorem valT_app2 {t s : List Ent} {c : Int} (h : ∀ e, e ∈ t → c ∉ e.1) : valT (t ++ s) c = valT s c := by
  unfold valT
  rw [List.find?_append, List.find?_eq_none.2 fun e he => by simpa using h e he]
  rfl
theorem get_map {C : List Int} {g : Int → Val} {c : Int} (h : c ∈ C) : pickF (C.map g) (idxF C c) = g c := by
  obtain ⟨i, hi, h1, h2⟩ := idxF_at h
  rw [h2, pickF_in (by simpa using hi)]
  simp [h1]
theorem tups_snoc (l : List Rel) (r : Rel) : tupsR (l ++ [r]) = (tupsR l).flatMap fun t => r.rows.map fun x => t ++ [(r.cols, x)] := by
  induction l with
  | nil => simp [tupsR, List.flatMap_def, List.map_map, Function.comp_def]; induction r.rows <;> simp_all
  | cons a l ih =>
    rw [List.cons_append]
    unfold tupsR
    rw [ih, List.flatMap_assoc]
    congr 1
    funext x
    rw [List.flatMap_map, List.map_flatMap]
    simp [List.map_map, Function.comp_def]
theorem tups_mem {t : List Ent} : ∀ {l : List Rel}, t ∈ tupsR l ↔ t.length = l.length ∧ ∀ i (h : i < t.length) (h' : i < l.length), t[i].1 = l[i].cols ∧ t[i].2 ∈ l[i].rows := by
  induction t with
  | nil =>
    intro l
    cases l with
    | nil => simp [tupsR]
    | cons r l =>
      simp [tupsR]
  | cons e t ih =>
    intro l
    cases l with
    | nil => simp [tupsR]
    | cons r l =>
      unfold tupsR
      rw [List.mem_flatMap]
      constructor
      · rintro ⟨x, hx, ht⟩
        rw [List.mem_map] at ht
        obtain ⟨t', ht', he⟩ := ht
        cases he
        obtain ⟨h1, h2⟩ := ih.1 ht'
        refine ⟨by simp [h1], fun i hi hi' => ?_⟩
        cases i with
        | zero => exact ⟨rfl, hx⟩
        | succ i => simpa using h2 i (by simpa using hi) (by simpa using hi')
      · rintro ⟨h1, h2⟩
        have h0 := h2 0 (by simp) (by simp)
        refine ⟨e.2, h0.2, List.mem_map.2 ⟨t, ih.2 ⟨by simpa using h1, fun i hi hi' => ?_⟩, ?_⟩⟩
        · have := h2 (i + 1) (by simpa using hi) (by simpa using hi')
          rwa [List.getElem_cons_succ, List.getElem_cons_succ] at this
        · rw [show r.cols = e.1 from h0.1.symm]
theorem tups_cols {t : List Ent} {l : List Rel} (h : t ∈ tupsR l) {c : Int} : c ∈ colsL l ↔ ∃ e, e ∈ t ∧ c ∈ e.1 := by
  obtain ⟨h1, h2⟩ := tups_mem.1 h
  unfold colsL
  rw [setI_mem, List.mem_flatMap]
  constructor
  · rintro ⟨r, hr, hc⟩
    obtain ⟨i, hi, rfl⟩ := List.getElem_of_mem hr
    exact ⟨t[i], List.getElem_mem _, by rw [(h2 i (by omega) hi).1]; exact hc⟩
  · rintro ⟨e, he, hc⟩
    obtain ⟨i, hi, rfl⟩ := List.getElem_of_mem he
    exact ⟨l[i], List.getElem_mem _, by rw [← (h2 i hi (by omega)).1]; exact hc⟩
theorem filt_map {α β : Type} (p : α → Bool) (f : α → β) (l : List α) : (l.filter p).map f = l.filterMap fun x => if p x = true then some (f x) else none := by
  induction l with
  | nil => rfl
  | cons a l ih =>
    cases h : p a <;> simp [h, ih]
theorem consB_snoc {t : List Ent} {e : Ent} : consB (t ++ [e]) = true ↔ consB t = true ∧ ∀ f, f ∈ t → Agree f e := by
  rw [consB_iff, consB_iff, List.pairwise_append]
  simp
theorem step_one {l : List Rel} {r : Rel} {R : List (List Val)} {t : List Ent} (ht : t ∈ tupsR l) : (match rowT (colsL l) t with | some row => rowsJ ⟨colsL l, R⟩ r row | none => []) = (r.rows.map fun x => t ++ [(r.cols, x)]).filterMap (rowT (setI (colsL l ++ r.cols))) := by
  rw [List.filterMap_map]
  have hcol := @tups_cols t l ht
  cases hc : consB t with
  | false =>
    have : rowT (colsL l) t = none := by unfold rowT; rw [hc]; rfl
    rw [this]
    symm
    show _ = []
    rw [List.filterMap_eq_nil_iff]
    intro x _
    show rowT _ (t ++ [(r.cols, x)]) = none
    unfold rowT
    rw [if_neg]
    rw [consB_snoc, hc]
    simp
  | true =>
    have : rowT (colsL l) t = some ((colsL l).map (valT t)) := by unfold rowT; rw [hc]; rfl
    rw [this]
    show rowsJ _ _ _ = _
    unfold rowsJ
    rw [filt_map]
    congr 1
    funext x
    show _ = rowT _ (t ++ [(r.cols, x)])
    have hp := consB_iff.1 hc
    have hget : ∀ c, c ∈ colsL l → getE (colsL l, (colsL l).map (valT t)) c = valT t c := fun c hc => get_map hc
    have hiff : meetB ⟨colsL l, R⟩ r ((colsL l).map (valT t)) x = true ↔ ∀ f, f ∈ t → Agree f (r.cols, x) := by
      rw [meetB_iff]
      constructor
      · intro h f hf c h1 h2
        have hcl := hcol.2 ⟨f, hf, h1⟩
        have := h c hcl h2
        rw [hget c hcl, valT_mem hp hf h1] at this
        exact this
      · intro h c h1 h2
        obtain ⟨f, hf, h3⟩ := hcol.1 h1
        rw [hget c h1, valT_mem hp hf h3]
        exact h f hf c h3 h2
    unfold rowT
    by_cases hm : meetB ⟨colsL l, R⟩ r ((colsL l).map (valT t)) x = true
    · rw [if_pos hm, if_pos (consB_snoc.2 ⟨hc, hiff.1 hm⟩)]
      congr 1
      unfold rowJ colsJ
      apply List.map_congr_left
      intro c hcm
      rw [setI_mem, List.mem_append] at hcm
      unfold cellJ
      by_cases hcl : c ∈ colsL l
      · rw [if_pos hcl, valT_app (hcol.1 hcl)]
        exact hget c hcl
      · rw [if_neg hcl, valT_app2 fun e he h => hcl (hcol.2 ⟨e, he, h⟩)]
        have hr : c ∈ r.cols := hcm.resolve_left hcl
        exact (valT_mem (t := [(r.cols, x)]) (List.pairwise_singleton _ _) List.mem_cons_self hr).symm
    · rw [if_neg hm, if_neg fun h => hm (hiff.2 (consB_snoc.1 h).2)]
theorem step_all {l : List Rel} {r : Rel} {R : List (List Val)} : ∀ T : List (List Ent), (∀ t, t ∈ T → t ∈ tupsR l) → (T.filterMap (rowT (colsL l))).flatMap (rowsJ ⟨colsL l, R⟩ r) = (T.flatMap fun t => r.rows.map fun x => t ++ [(r.cols, x)]).filterMap (rowT (setI (colsL l ++ r.cols)))
  | [], _ => rfl
  | t :: T, h => by
    have h1 := step_one (r := r) (R := R) (h t List.mem_cons_self)
    have h2 := step_all (l := l) (r := r) (R := R) T fun t ht => h t (List.mem_cons_of_mem _ ht)
    rw [List.flatMap_cons, List.filterMap_append, ← h2, ← h1, List.filterMap_cons]
    cases rowT (colsL l) t <;> simp
theorem colsL_snoc (l : List Rel) (r : Rel) : colsL (l ++ [r]) = setI (colsL l ++ r.cols) := by
  refine rises_eq (setI_rises _) (setI_rises _) fun x => ?_
  rw [colsL, setI_mem, setI_mem, List.mem_append, colsL, setI_mem, List.flatMap_append]
  simp
theorem allJ_snoc (l : List Rel) (r : Rel) : allJ (l ++ [r]) = joinR (allJ l) r := by unfold allJ; rw [List.foldl_append]; rfl
theorem allJ_eq : ∀ (n : Nat) (l : List Rel), l.length = n → allJ l = ⟨colsL l, (tupsR l).filterMap (rowT (colsL l))⟩
  | 0, l, h => by
    obtain rfl := List.eq_nil_of_length_eq_zero h
    simp [allJ, colsL, tupsR, rowT, consB, setI]
  | n + 1, l, h => by
    rcases List.eq_nil_or_concat l with rfl | ⟨l, r, rfl⟩
    · cases h
    rw [List.concat_eq_append] at h ⊢
    have ih := allJ_eq n l (by simpa using h)
    rw [allJ_snoc, ih, tups_snoc, colsL_snoc]
    unfold joinR
    rw [← step_all (l := l) (r := r) (R := (tupsR l).filterMap (rowT (colsL l))) _ fun t h => h]
    rfl
theorem allJ_rows (l : List Rel) : (allJ l).rows = (tupsR l).filterMap (rowT (colsL l)) := by rw [allJ_eq _ l rfl]
theorem allJ_cols (l : List Rel) : (allJ l).cols = colsL l := by rw [allJ_eq _ l rfl]
theorem perm_flat {α β : Type} {f g : α → List β} : ∀ {l : List α}, (∀ x, x ∈ l → (f x).Perm (g x)) → (l.flatMap f).Perm (l.flatMap g)
  | [], _ => .refl _
  | a :: l, h => by
    rw [List.flatMap_cons, List.flatMap_cons]
    exact (h a List.mem_cons_self).append (perm_flat fun x hx => h x (List.mem_cons_of_mem _ hx))
theorem flat_two {α β : Type} {f g : α → List β} : ∀ {l : List α}, (l.flatMap f ++ l.flatMap g).Perm (l.flatMap fun x => f x ++ g x)
  | [] => .refl _
  | a :: l => by
    rw [List.flatMap_cons, List.flatMap_cons, List.flatMap_cons, List.append_assoc, List.append_assoc]
    refine List.Perm.append_left _ ?_
    rw [← List.append_assoc]
    refine (List.perm_append_comm.append_right _).trans ?_
    rw [List.append_assoc]
    exact List.Perm.append_left _ flat_two
theorem flat_comm {α β γ : Type} {f : α → β → List γ} {m : List β} : ∀ {l : List α}, (l.flatMap fun x => m.flatMap fun y => f x y).Perm (m.flatMap fun y => l.flatMap fun x => f x y)
  | [] => by simp
  | a :: l => by
    simp only [List.flatMap_cons]
    exact (List.Perm.append_left _ flat_comm).trans flat_two
theorem tups_cons_map {β : Type} (f : List Ent → Option β) (r : Rel) (l : List Rel) : (tupsR (r :: l)).filterMap f = r.rows.flatMap fun x => (tupsR l).filterMap fun t => f ((r.cols, x) :: t) := by
  rw [show tupsR (r :: l) = r.rows.flatMap fun x => (tupsR l).map fun t => (r.cols, x) :: t from rfl, List.filterMap_flatMap]
  simp only [List.filterMap_map, Function.comp_def]
theorem tups_perm {l l' : List Rel} (h : l.Perm l') : ∀ {β : Type} (f : List Ent → Option β), (∀ t t', t.Perm t' → f t = f t') → ((tupsR l).filterMap f).Perm ((tupsR l').filterMap f) := by
  induction h with
  | nil => intro β f hf; exact .refl _
  | cons r h ih =>
    intro β f hf
    rw [tups_cons_map, tups_cons_map]
    exact perm_flat fun x _ => ih _ fun t t' ht => hf _ _ (ht.cons _)
  | swap r s l =>
    intro β f hf
    rw [tups_cons_map, tups_cons_map]
    simp only [tups_cons_map]
    refine flat_comm.trans (perm_flat fun x _ => perm_flat fun y _ => ?_)
    have : (fun t => f ((s.cols, y) :: (r.cols, x) :: t)) = fun t => f ((r.cols, x) :: (s.cols, y) :: t) := by
      funext t
      exact hf _ _ (.swap _ _ _)
    rw [this]
  | trans _ _ ih1 ih2 => intro β f hf; exact (ih1 f hf).trans (ih2 f hf)
theorem rowT_perm (C : List Int) (t t' : List Ent) (h : t.Perm t') : rowT C t = rowT C t' := by
  have hc : consB t = true ↔ consB t' = true := by
    rw [consB_iff, consB_iff]
    exact h.pairwise_iff fun h => h.symm
  unfold rowT
  by_cases h1 : consB t = true
  · rw [if_pos h1, if_pos (hc.1 h1)]
    congr 1
    apply List.map_congr_left
    intro c _
    by_cases h2 : ∃ e, e ∈ t ∧ c ∈ e.1
    · obtain ⟨e, he, hce⟩ := h2
      rw [valT_mem (consB_iff.1 h1) he hce, valT_mem (consB_iff.1 (hc.1 h1)) (h.mem_iff.1 he) hce]
    · rw [valT_none fun e he hce => h2 ⟨e, he, hce⟩, valT_none fun e he hce => h2 ⟨e, h.mem_iff.2 he, hce⟩]
  · rw [if_neg h1, if_neg fun h => h1 (hc.2 h)]
theorem colsL_perm {l l' : List Rel} (h : l.Perm l') : colsL l = colsL l' := by
  refine rises_eq (setI_rises _) (setI_rises _) fun x => ?_
  unfold colsL
  rw [setI_mem, setI_mem, List.mem_flatMap, List.mem_flatMap]
  constructor
  · rintro ⟨r, hr, hx⟩; exact ⟨r, h.mem_iff.1 hr, hx⟩
  · rintro ⟨r, hr, hx⟩; exact ⟨r, h.mem_iff.2 hr, hx⟩
theorem allJ_perm {l l' : List Rel} (h : l.Perm l') : (allJ l).cols = (allJ l').cols ∧ (allJ l).rows.Perm (allJ l').rows := by
  rw [allJ_cols, allJ_cols, allJ_rows, allJ_rows, colsL_perm h]
  exact ⟨rfl, tups_perm h _ (rowT_perm _)⟩
end Go.Proofs.YtjplcdeaedflpaaDoor.PL
