/- What is left of ears, and trees of them. -/
import Derived.Test.YtahpoodcmeoabaaFGyoP
namespace Go.Proofs.Ytahpoodcmeoabaa.PL
open Go.Proofs
set_option linter.unusedVariables false
set_option linter.unusedSimpArgs false
/-- has an edge a vertex? -/
def vx (h : List (List Int)) (i : Nat) (v : Int) : Prop := v ∈ h.getD i []
def lf (left : List Bool) (k : Nat) : Prop := left.getD k false = true
theorem vx_lt {h : List (List Int)} {i : Nat} {v : Int} (hv : vx h i v) : i < h.length := by
  rcases Nat.lt_or_ge i h.length with h1 | h1
  · exact h1
  · unfold vx at hv
    rw [List.getD_eq_getElem?_getD, List.getElem?_eq_none h1] at hv
    cases hv
theorem lf_lt {left : List Bool} {k : Nat} (hk : lf left k) : k < left.length := by
  rcases Nat.lt_or_ge k left.length with h1 | h1
  · exact h1
  · unfold lf at hk
    rw [List.getD_eq_getElem?_getD, List.getElem?_eq_none h1] at hk
    cases hk
theorem earQ_iff {h : List (List Int)} {left : List Bool} {i p : Nat} : earQ h left i p = true ↔ p ≠ i ∧ lf left p ∧ ∀ k, lf left k → k ≠ i → ∀ v, vx h i v → vx h k v → vx h p v := by
  unfold earQ
  rw [Bool.and_eq_true, Bool.and_eq_true, withinI_iff]
  constructor
  · rintro ⟨h1, h2, h3⟩
    refine ⟨by simpa using h1, h2, fun k hk hki v hv hv2 => ?_⟩
    exact h3 v (outP_mem.2 ⟨k, vx_lt hv2, hki, hk, sharedI_mem.2 ⟨hv, hv2⟩⟩)
  · rintro ⟨h1, h2, h3⟩
    refine ⟨by simpa using h1, h2, fun v hv => ?_⟩
    obtain ⟨k, h4, h5, h6, h7⟩ := outP_mem.1 hv
    obtain ⟨h8, h9⟩ := sharedI_mem.1 h7
    exact h3 k h6 h5 v h8 h9
theorem earF_ear {h : List (List Int)} {left : List Bool} {i p : Nat} (he : earF h left i = some p) : Gy.Ear (vx h) (lf left) i p := by
  obtain ⟨h1, h2, h3⟩ := earQ_iff.1 (earF_lt he).2
  exact ⟨earF_left he, h2, h1, h3⟩
theorem earF_no {h : List (List Int)} {left : List Bool} {i : Nat} (hl : left.length = h.length) (he : earF h left i = none) (p : Nat) : ¬ Gy.Ear (vx h) (lf left) i p := by
  rintro ⟨h1, h2, h3, h4⟩
  have := earF_none he h1 p (by have := lf_lt h2; omega)
  rw [earQ_iff.2 ⟨h3, h2, h4⟩] at this
  cases this
theorem lf_set {left : List Bool} {i : Nat} : lf (left.set i false) = Gy.less (lf left) i := by
  funext k
  unfold lf Gy.less
  rw [List.getD_eq_getElem?_getD, List.getElem?_set]
  show _ = (left.getD k false = true ∧ k ≠ i)
  rw [List.getD_eq_getElem?_getD]
  by_cases hk : i = k
  · subst hk
    rw [if_pos rfl]
    split <;> simp
  · rw [if_neg hk]
    simp
    intro _ e
    exact hk e.symm
theorem playF_run {h : List (List Int)} : ∀ (m : Nat) (left : List Bool), Gy.Run (vx h) (lf left) (playF h m left).1 (lf (playF h m left).2)
  | 0, left => .nil
  | m + 1, left => by
    rw [playF]
    cases hq : ear1 h left with
    | none => exact .nil
    | some y =>
      obtain ⟨i, p⟩ := y
      have h2 := (ear1_some hq).2
      exact .cons (earF_ear h2) (by rw [← lf_set]; exact playF_run m _)
theorem playF_end {h : List (List Int)} : ∀ (m : Nat) (left : List Bool), left.count true ≤ m → ear1 h (playF h m left).2 = none
  | 0, left, hc => by
    cases hq : ear1 h left with
    | none => exact hq
    | some y =>
      obtain ⟨i, p⟩ := y
      have := count_set (earF_left (ear1_some hq).2)
      omega
  | m + 1, left, hc => by
    rw [playF]
    cases hq : ear1 h left with
    | none => exact hq
    | some y =>
      obtain ⟨i, p⟩ := y
      have := count_set (earF_left (ear1_some hq).2)
      exact playF_end m _ (by omega)
theorem lf_all {n : Nat} : lf (List.replicate n true) = fun k => k < n := by
  funext k
  unfold lf
  rw [List.getD_eq_getElem?_getD, List.getElem?_replicate]
  by_cases h : k < n <;> simp [h]
theorem playI_run (h : List (List Int)) : Gy.Run (vx h) (fun k => k < h.length) (playI h).1 (lf (playI h).2) := by
  have := playF_run (h := h) h.length (List.replicate h.length true)
  rwa [lf_all] at this
theorem playI_end (h : List (List Int)) (i p : Nat) : ¬ Gy.Ear (vx h) (lf (playI h).2) i p := by
  have h1 := playF_end (h := h) h.length (List.replicate h.length true) (by simp)
  intro he
  have hl := (playI_len h).1
  have hi : i < h.length := by have := lf_lt he.1; omega
  exact earF_no hl (ear1_none h1 i hi) p he
theorem rest_one {left : List Bool} (hs : ∃ r, lf left r) : (restI left).length ≤ 1 ↔ ∃ r, ∀ k, lf left k ↔ k = r := by
  have hm : ∀ k, lf left k ↔ k ∈ (List.range left.length).filter fun k => left.getD k false := fun k => by
    simp only [List.mem_filter, List.mem_range]
    exact ⟨fun h => ⟨lf_lt h, h⟩, fun h => h.2⟩
  have hnd : ((List.range left.length).filter fun k => left.getD k false).Nodup := List.Nodup.sublist List.filter_sublist List.nodup_range
  unfold restI
  rw [List.length_map]
  generalize (List.range left.length).filter (fun k => left.getD k false) = F at *
  constructor
  · intro hl
    match F, hl with
    | [], _ => obtain ⟨r, hr⟩ := hs; exact absurd ((hm r).1 hr) (by simp)
    | [r], _ => exact ⟨r, fun k => by rw [hm]; simp⟩
  · rintro ⟨r, hr⟩
    match F with
    | [] => simp
    | [a] => simp
    | a :: b :: F =>
      have h1 := (hr a).1 ((hm a).2 (by simp))
      have h2 := (hr b).1 ((hm b).2 (by simp))
      rw [List.nodup_cons] at hnd
      exact absurd (by rw [h1, h2]; simp) hnd.1
/-- acyclic: all edges but one may go -/
theorem acy_iff (h : List (List Int)) (hn : 0 < h.length) : acyI h = true ↔ ∃ r, ∀ k, lf (playI h).2 k ↔ k = r := by
  unfold acyI
  rw [decide_eq_true_iff]
  exact rest_one ((playI_run h).someL ⟨0, hn⟩)
theorem acy_elm (h : List (List Int)) (hn : 0 < h.length) : acyI h = true ↔ Gy.Elm (vx h) (fun k => k < h.length) := by
  rw [acy_iff h hn]
  constructor
  · rintro ⟨r, hr⟩
    exact (playI_run h).elm (.one r hr)
  · intro he
    exact ((playI_run h).elm' he).last (playI_end h)

/-! ### trees -/
def fOf (ps : List Int) (i : Nat) : Option Nat := if ps.getD i (-1) = -1 then none else some (ps.getD i (-1)).toNat
abbrev nI (l : List Nat) : List Int := l.map fun (n : Nat) => (n : Int)
def TreeOk (ps : List Int) : Prop := ∀ i, i < ps.length → ∃ U, Gy.Up (fOf ps) i U ∧ (∀ x, x ∈ U → x < ps.length) ∧ upI ps i = nI U
theorem upF_up {ps : List Int} : ∀ (m : Nat) (i : Int), upF ps m i ≠ [] → ps.getD ((upF ps m i).getLast?.getD 0).toNat 0 = -1 → ∃ U, Gy.Up (fOf ps) i.toNat U ∧ (∀ x, x ∈ U → x < ps.length) ∧ upF ps m i = nI U
  | 0, i, h, _ => absurd rfl h
  | m + 1, i, h, hl => by
    rw [upF] at h hl ⊢
    split at h
    · rename_i hc
      rw [if_pos hc] at hl ⊢
      obtain ⟨k, rfl⟩ : ∃ k : Nat, i = k := ⟨i.toNat, by omega⟩
      have hk : k < ps.length := by omega
      have e1 : ps.getD (k : Int).toNat 0 = ps[k] := by simp [hk]
      have e2 : ps.getD (k : Int).toNat (-1) = ps[k] := by simp [hk]
      by_cases ht : upF ps m (ps.getD (k : Int).toNat 0) = []
      · rw [ht] at hl ⊢
        have : ps[k] = -1 := by simpa [hk] using hl
        refine ⟨[k], .root (by unfold fOf; rw [e2, this]; rfl), fun x hx => by simp at hx; omega, rfl⟩
      · rw [List.getLast?_cons_of_ne_nil ht] at hl
        obtain ⟨U, h1, h2, h3⟩ := upF_up m _ ht hl
        have hne : 0 ≤ ps[k] ∧ ps[k] < ps.length := by
          rw [e1] at ht
          cases m with
          | zero => exact absurd rfl ht
          | succ m =>
            rw [upF] at ht
            split at ht
            · assumption
            · exact absurd rfl ht
        rw [e1] at h1
        refine ⟨k :: U, .step (p := ps[k].toNat) ?_ h1, fun x hx => ?_, by rw [h3]; rfl⟩
        · unfold fOf
          rw [e2, if_neg (by omega)]
        · rcases List.mem_cons.1 hx with rfl | hx
          · exact hk
          · exact h2 x hx
    · exact absurd rfl h
theorem tree_ok {ps : List Int} (h : treeI ps = true) : TreeOk ps := by
  intro i hi
  unfold treeI at h
  rw [Bool.and_eq_true, List.all_eq_true] at h
  have h1 := h.1 i (by simpa using hi)
  unfold endOk at h1
  have := upF_up ps.length i (upI_ne hi) (by simpa [upI] using h1)
  exact this
theorem up_upF {ps : List Int} {i : Nat} {U : List Nat} (h : Gy.Up (fOf ps) i U) : (∀ x, x ∈ U → x < ps.length) → (∀ x, x ∈ U → -1 ≤ ps.getD x (-1)) → ∀ m, U.length ≤ m → upF ps m i = nI U := by
  induction h with
  | @root r h =>
    intro hx hg m hm
    obtain ⟨m, rfl⟩ : ∃ k, m = k + 1 := ⟨m - 1, by simp at hm; omega⟩
    have hr : r < ps.length := hx r (by simp)
    have hc : 0 ≤ (r : Int) ∧ (r : Int) < ps.length := ⟨by omega, by omega⟩
    rw [upF, if_pos hc]
    have e1 : ps.getD (r : Int).toNat 0 = -1 := by
      unfold fOf at h
      split at h
      · rename_i e; simp [hr] at e ⊢; exact e
      · cases h
    rw [e1]
    cases m with
    | zero => rfl
    | succ m => rw [upF, if_neg (by omega)]; rfl
  | @step i p U h t ih =>
    intro hx hg m hm
    obtain ⟨m, rfl⟩ : ∃ k, m = k + 1 := ⟨m - 1, by simp at hm; omega⟩
    have hr : i < ps.length := hx i (by simp)
    have hc : 0 ≤ (i : Int) ∧ (i : Int) < ps.length := ⟨by omega, by omega⟩
    rw [upF, if_pos hc]
    have e1 : ps.getD (i : Int).toNat 0 = (p : Int) := by
      have hgi := hg i (by simp)
      unfold fOf at h
      split at h
      · cases h
      · rename_i e
        simp only [Option.some.injEq] at h
        simp [hr] at e hgi h ⊢
        omega
    rw [e1, ih (fun x h => hx x (by simp [h])) (fun x h => hg x (by simp [h])) m (by simp at hm; omega)]
    rfl
theorem mem_nI {k : Nat} {l : List Nat} : (k : Int) ∈ nI l ↔ k ∈ l := by
  unfold nI
  rw [List.mem_map]
  exact ⟨fun ⟨a, h1, h2⟩ => by have : a = k := by omega
                               rw [← this]; exact h1, fun h => ⟨k, h, rfl⟩⟩
theorem meet_nI (A B : List Nat) : meetI (nI A) (nI B) = match Gy.meet A B with | some m => (m : Int) | none => -1 := by
  unfold meetI Gy.meet
  have : (nI A).find? (fun v => decide (v ∈ nI B)) = (A.find? fun k => decide (k ∈ B)).map fun (n : Nat) => (n : Int) := by
    unfold nI
    induction A with
    | nil => rfl
    | cons a A ih =>
      rw [List.map_cons, List.find?_cons, List.find?_cons]
      have : decide ((a : Int) ∈ List.map (fun (n : Nat) => (n : Int)) B) = decide (a ∈ B) := by
        have := mem_nI (k := a) (l := B)
        unfold nI at this
        simp only [this]
      rw [this]
      cases decide (a ∈ B) with
      | true => rfl
      | false => exact ih
  rw [this]
  cases A.find? (fun k => decide (k ∈ B)) <;> rfl
theorem path_on {ps : List Int} (ht : TreeOk ps) {a b k : Nat} (ha : a < ps.length) (hb : b < ps.length) (hk : k < ps.length) : pathI ps a b k = true ↔ Gy.On (fOf ps) a b k := by
  obtain ⟨A, a1, a2, a3⟩ := ht a ha
  obtain ⟨B, b1, b2, b3⟩ := ht b hb
  obtain ⟨N, n1, n2, n3⟩ := ht k hk
  unfold pathI
  rw [a3, b3, n3, meet_nI, Bool.and_eq_true, Bool.or_eq_true, decide_eq_true_iff, decide_eq_true_iff, decide_eq_true_iff, mem_nI, mem_nI]
  constructor
  · rintro ⟨h1, h2⟩
    cases hm : Gy.meet A B with
    | none =>
      rw [hm] at h2
      exact absurd h2 (by unfold nI; simp)
    | some m =>
      rw [hm] at h2
      exact ⟨A, B, N, m, a1, b1, n1, h1, hm, mem_nI.1 h2⟩
  · rintro ⟨A', B', N', m, h1, h2, h3, h4, h5, h6⟩
    obtain rfl := h1.uniq a1
    obtain rfl := h2.uniq b1
    obtain rfl := h3.uniq n1
    refine ⟨h4, ?_⟩
    rw [h5]
    exact mem_nI.2 h6
end Go.Proofs.Ytahpoodcmeoabaa.PL
