/- The law of finding. -/
import Derived.Test.YtjplcdeaedflpaaDoorFFind3
namespace Go.Proofs.YtjplcdeaedflpaaDoor.PL
open Go.Proofs
set_option linter.unusedVariables false
set_option linter.unusedSimpArgs false
theorem T.res {P : Program} {f : FuncId} {args : List AV} {r r' : AV} (h : T P f args r) (hc : Dw r r') : T P f args r' := by
  refine fun I w vs hg hi hv => (h I w vs hg hi hv).mono ?_
  rintro e w' ⟨I', v, h1, h2, h3, h4, h5⟩
  exact ⟨I', v, h1, h2, h3, hc.cl _ _ h4, h5⟩
def foundT (ts : List Tab) (n : ByteArray) : Tab := (findT ts n).getD noTab
theorem tabO_dw (ts : List Tab) (n : ByteArray) : Dw (tabO (findT ts n)) (foundT ts n).av := by
  unfold foundT
  cases findT ts n with
  | some t => exact .self (by simp [tabO])
  | none => exact .agg (.cons (.self rfl) (.cons (.sl .nil) (.cons (.sl .nil) .nil)))


theorem muchTL_no2 : ∀ {ts : List Tab} {n : Int}, 0 ≤ n → muchTL ts n = false → ∀ t, t ∈ ts → t.cols.length ≤ 400 ∧ t.rows.length ≤ 400
  | [], _, _, _, t, ht => by cases ht
  | u :: ts, n, hn, h, t, ht => by
    unfold muchTL at h
    split at h
    · cases h
    · rename_i h1
      split at h
      · cases h
      · rcases List.mem_cons.1 ht with rfl | ht
        · omega
        · exact muchTL_no2 (by omega) h t ht
theorem muchT_no2 {ts : List Tab} (h : muchT ts = false) : ∀ t, t ∈ ts → t.cols.length ≤ 400 ∧ t.rows.length ≤ 400 := by
  unfold muchT at h
  simp at h
  have h1 := h.1
  rw [List.take_of_length_le (by omega)] at h1
  exact muchTL_no2 (Int.le_refl _) h1
theorem dropI_sub (l : List (List Val)) (k : Int) : ∀ i, ∀ r, r ∈ dropAt l k i → r ∈ l := by
  intro i
  induction i with
  | zero => intro r h; simp [dropAt] at h
  | succ i ih =>
    intro r h
    rw [dropAt, List.mem_append] at h
    rcases h with h | h
    · exact ih r h
    · cases hl : l[i]? with
      | none => rw [hl] at h; simp at h
      | some a =>
        rw [hl] at h
        dsimp only at h
        split at h
        · simp at h
        · simp at h; subst h; exact List.mem_of_getElem? hl
theorem dropI_len (l : List (List Val)) (k : Int) : ((dropI l k).length : Int) = if 0 ≤ k ∧ k < l.length then (l.length : Int) - 1 else l.length := by
  split
  · rename_i h
    obtain ⟨n, rfl⟩ : ∃ n : Nat, k = n := ⟨k.toNat, by omega⟩
    rw [dropI, dropAt_eq l n _ (Nat.le_refl _), List.take_length]
    simp
    omega
  · rename_i h
    rw [dropI, dropAt_out l k (by omega) _ (Nat.le_refl _), List.take_length]
theorem withT_names (n : ByteArray) (k : Int) : ∀ ts, checkL [] ts = checkL [] ts := fun _ => rfl
theorem check_with (n : ByteArray) (k : Int) : ∀ (ts : List Tab) (seen : List ByteArray), checkL seen ts = 0 → checkL seen (withT n k ts) = 0
  | [], _, h => h
  | t :: ts, seen, h => by
    unfold checkL at h
    unfold withT
    by_cases hn : t.name = n
    · rw [if_pos hn]
      unfold checkL
      split at h
      · cases h
      rename_i h1
      rw [if_neg h1]
      split at h
      · cases h
      rename_i h2
      have hlen := dropI_len t.rows k
      rw [if_neg (by dsimp only; split at hlen <;> omega)]
      split at h
      · rename_i h3; exact absurd h h3
      rename_i h3
      rw [if_neg h3]
      split at h
      · cases h
      rename_i h4
      rw [if_neg (by
        simp only [Bool.not_eq_false] at h4 ⊢
        rw [List.all_eq_true] at h4 ⊢
        exact fun r hr => h4 r (dropI_sub _ _ _ r hr))]
      exact h
    · rw [if_neg hn]
      unfold checkL
      split at h
      · cases h
      rename_i h1
      rw [if_neg h1]
      split at h
      · cases h
      rename_i h2
      rw [if_neg h2]
      split at h
      · rename_i h3; exact absurd h h3
      rename_i h3
      rw [if_neg h3]
      split at h
      · cases h
      rename_i h4
      rw [if_neg h4]
      exact check_with n k ts _ h
theorem withT_len (n : ByteArray) (k : Int) : ∀ ts, (withT n k ts).length = ts.length
  | [] => rfl
  | t :: ts => by unfold withT; split <;> simp [withT_len n k ts]
theorem checkV_with (n : ByteArray) (k : Int) (ts : List Tab) (h : checkV ts = 0) : checkV (withT n k ts) = 0 := by
  unfold checkV at *
  rw [withT_len]
  split at h
  · cases h
  · rename_i h1
    rw [if_neg h1]
    exact check_with n k ts [] h
theorem size_with (n : ByteArray) (k : Int) : ∀ ts, sizeT (withT n k ts) = sizeT ts - if (findT ts n).isSome = true ∧ 0 ≤ k ∧ k < (foundT ts n).rows.length then 1 else 0
  | [] => by simp [withT, sizeT, findT]
  | t :: ts => by
    have ih := size_with n k ts
    by_cases hn : t.name = n
    · have hlen := dropI_len t.rows k
      have e1 : foundT (t :: ts) n = t := by simp [foundT, findT, hn]
      have e2 : (findT (t :: ts) n).isSome = true := by simp [findT, hn]
      rw [e1, e2]
      unfold withT
      rw [if_pos hn]
      simp only [sizeT, List.map_cons, List.sum_cons]
      rw [hlen]
      by_cases h : 0 ≤ k ∧ k < t.rows.length
      · rw [if_pos h, if_pos ⟨trivial, h⟩]; omega
      · rw [if_neg h, if_neg (fun x => h x.2)]; omega
    · have e1 : foundT (t :: ts) n = foundT ts n := by simp [foundT, findT, hn]
      have e2 : findT (t :: ts) n = findT ts n := by simp [findT, hn]
      rw [e1, e2]
      unfold withT
      rw [if_neg hn]
      simp only [sizeT, List.map_cons, List.sum_cons] at ih ⊢
      omega
theorem size_bnd : ∀ ts : List Tab, (∀ t, t ∈ ts → t.rows.length ≤ 400) → 0 ≤ sizeT ts ∧ sizeT ts ≤ 400 * (ts.length : Int)
  | [], _ => by simp [sizeT]
  | t :: ts, h => by
    have h1 := size_bnd ts fun u hu => h u (List.mem_cons_of_mem _ hu)
    have h2 := h t (List.mem_cons_self ..)
    simp only [sizeT, List.map_cons, List.sum_cons, List.length_cons] at *
    omega
theorem with_mem (n : ByteArray) (k : Int) : ∀ ts : List Tab, ∀ u, u ∈ withT n k ts → ∃ t, t ∈ ts ∧ u.name = t.name ∧ u.cols = t.cols ∧ u.rows.length ≤ t.rows.length ∧ ∀ r, r ∈ u.rows → r ∈ t.rows
  | [], u, h => by cases h
  | t :: ts, u, h => by
    unfold withT at h
    split at h
    · rcases List.mem_cons.1 h with rfl | h
      · refine ⟨t, List.mem_cons_self .., rfl, rfl, ?_, fun r hr => dropI_sub _ _ _ r hr⟩
        have := dropI_len t.rows k
        dsimp only
        split at this <;> omega
      · exact ⟨u, List.mem_cons_of_mem _ h, rfl, rfl, Nat.le_refl _, fun r hr => hr⟩
    · rcases List.mem_cons.1 h with rfl | h
      · exact ⟨u, List.mem_cons_self .., rfl, rfl, Nat.le_refl _, fun r hr => hr⟩
      · obtain ⟨t', h1, h2⟩ := with_mem n k ts u h
        exact ⟨t', List.mem_cons_of_mem _ h1, h2⟩
theorem found_mem (ts : List Tab) (n : ByteArray) : foundT ts n = noTab ∨ foundT ts n ∈ ts := by
  induction ts with
  | nil => exact .inl rfl
  | cons t ts ih =>
    by_cases h : t.name = n
    · right; simp [foundT, findT, h]
    · have e : foundT (t :: ts) n = foundT ts n := by simp [foundT, findT, h]
      rw [e]
      exact ih.imp id fun h => List.mem_cons_of_mem _ h


end Go.Proofs.YtjplcdeaedflpaaDoor.PL
