/- The reference's sets of numbers. -/
import Derived.Test.YtjplcdeaedflpaaGreatDoorFGraph2
namespace Go.Proofs.YtjplcdeaedflpaaGreatDoor.PL
open Go.Proofs
set_option linter.unusedVariables false
set_option linter.unusedSimpArgs false
theorem T_has21 (l : List Int) (v : Int) (hl : l.length < 4611686018427387904) : T Tryz.prog 62 [.sl .no (ints' l), .int .i64 v] (.bool (decide (v ∈ l))) := by
  refine T.intro (TS.body mix Tryz.func62 (by kernel_rfl) rfl (by kernel_rfl) (by simp) ?_)
  simp
  refine vc_loop (fun i : Nat => l.length - i) (fun i e H => e 0 = .sl .no (ints' l) ∧ e 1 = .int .i64 v ∧ e 5 = .int .i64 i ∧ i ≤ l.length ∧ v ∉ l.take i) 0 ?_ ?_
  · simp
  rintro i e H ⟨h0, h1, h5, hi, hno⟩
  by_cases h : i < l.length
  · simp [h0, h1, h5, h]
    refine condK_of (fun h' => ?_) (fun h' => ?_)
    · simp at h'
      have : v ∈ l := by rw [← h']; exact List.getElem_mem h
      simp [this]
    · simp at h'
      simp [h0, h1, h5]
      refine ⟨i + 1, by omega, wrap_next h (by omega), by omega, ?_⟩
      rw [take_next h, List.mem_append]
      simp [hno]
      exact fun e => h' e.symm
  · have : i = l.length := by omega
    subst this
    rw [List.take_length] at hno
    simp [h0, h1, h5, hno]
theorem putI_in {v : Int} : ∀ {l : List Int}, Rises l → v ∈ l → putI v l = l
  | x :: l, h, hv => by
    unfold Rises at h
    rw [List.pairwise_cons] at h
    unfold putI
    rcases List.mem_cons.1 hv with rfl | hv
    · simp
    · have := h.1 v hv
      rw [if_pos this, putI_in h.2 hv]
theorem putI_at {v : Int} : ∀ {l : List Int} {k : Nat}, k ≤ l.length → (∀ j (h : j < l.length), j < k → l[j] < v) → (∀ h : k < l.length, ¬ l[k] < v) → v ∉ l → putI v l = l.take k ++ v :: l.drop k
  | [], k, hk, _, _, _ => by simp at hk; subst hk; rfl
  | x :: l, 0, _, _, h2, h3 => by
    have := h2 (by simp)
    simp at this h3
    unfold putI
    rw [if_neg (by omega), if_neg (by omega)]
    rfl
  | x :: l, k + 1, hk, h1, h2, h3 => by
    have h0 : x < v := h1 0 (by simp) (by omega)
    unfold putI
    rw [if_pos h0, putI_at (k := k) (by simpa using hk) (fun j a b => h1 (j + 1) (by simpa using a) (by omega)) (fun a => h2 (by simpa using a)) (fun hm => h3 (List.mem_cons_of_mem _ hm))]
    rfl
theorem T_put21 (l : List Int) (v : Int) (hl : l.length ≤ 1000000) (hr : Rises l) : T Tryz.prog 101 [.sl .no (ints' l), .int .i64 v] (.sl .no (ints' (putI v l))) := by
  have kh := T_has21 l v (by omega)
  refine T.introF (TS.body mix Tryz.func101 (by kernel_rfl) rfl (by kernel_rfl) (by simp) ?_)
  simp
  refine TS.callW kh (Dws.self (by simp)) ?_
  by_cases hv : v ∈ l
  · rw [putI_in hr hv]
    simp [hv]
    exact Frz.slN (f := AV.int .i64)
  · simp [hv]
    refine vc_loop (fun i : Nat => l.length - i) (fun i e H => e 0 = .sl .no (ints' l) ∧ e 1 = .int .i64 v ∧ e 5 = .int .i64 i ∧ i ≤ l.length ∧ (∀ j (h : j < l.length), j < i → l[j] < v) ∧ H = []) 0 ?_ ?_
    · simp
    rintro i e H ⟨h0, h1, h5, hi, hlo, rfl⟩
    have fin : (∀ h : i < l.length, ¬ l[i] < v) → putI v l = l.take i ++ v :: l.drop i := fun h => putI_at hi hlo h hv
    by_cases h : i < l.length
    · by_cases h2 : l[i] < v
      · simp [h0, h1, h5, h, h2]
        refine ⟨i + 1, by omega, wrap_next h (by omega), by omega, fun j hj hji => ?_⟩
        rcases Nat.lt_or_ge j i with h3 | h3
        · exact hlo j hj h3
        · have : j = i := by omega
          subst this; exact h2
      · rw [fin fun _ => h2]
        have hm : min i l.length = i := by omega
        by_cases hi0 : i = 0
        · subst hi0
          simp [h0, h1, h5, h, h2]
          exact ⟨⟨by omega, by omega⟩, Frz.slN (f := AV.int .i64) (l := v :: l)⟩
        · simp [h0, h1, h5, h, h2]
          simp [hm, ownAt, appJ, appK, hi0]
          exact ⟨by omega, ⟨by omega, by omega⟩, ⟨by omega, by omega⟩, by omega, ⟨by omega, by omega⟩, Frz.slN (f := AV.int .i64) (l := l.take i ++ v :: l.drop i)⟩
    · rw [fin fun x => absurd x h]
      have hm : min i l.length = i := by omega
      by_cases hi0 : i = 0
      · subst hi0
        simp [h0, h1, h5, h]
        exact ⟨⟨by omega, by omega⟩, Frz.slN (f := AV.int .i64) (l := v :: l)⟩
      · simp [h0, h1, h5, h]
        simp [hm, ownAt, appJ, appK, hi0]
        exact ⟨by omega, ⟨by omega, by omega⟩, ⟨by omega, by omega⟩, by omega, ⟨by omega, by omega⟩, Frz.slN (f := AV.int .i64) (l := l.take i ++ v :: l.drop i)⟩
theorem setI_next {l : List Int} {i : Nat} (h : i < l.length) : setI (l.take (i + 1)) = putI l[i] (setI (l.take i)) := by
  unfold setI
  rw [take_next h, List.foldl_append]
  rfl
theorem T_rset21 (l : List Int) (hl : l.length ≤ 1000000) : T Tryz.prog 61 [.sl .no (ints' l)] (.sl .no (ints' (setI l))) := by
  refine T.introF (TS.body mix Tryz.func61 (by kernel_rfl) rfl (by kernel_rfl) (by simp) ?_)
  simp
  refine vc_loop (fun i : Nat => l.length - i) (fun i e H => e 0 = .sl .no (ints' l) ∧ (∃ own, e 3 = .sl own (ints' (setI (l.take i)))) ∧ e 4 = .int .i64 i ∧ i ≤ l.length ∧ H = []) 0 ?_ ?_
  · simp [setI]
  rintro i e H ⟨h0, ⟨own, h3⟩, h4, hi, rfl⟩
  by_cases h : i < l.length
  · have hsl := setI_len (l.take i)
    rw [List.length_take] at hsl
    have kp := T_put21 (setI (l.take i)) l[i] (by omega) (setI_rises _)
    rw [← setI_next h] at kp
    simp [h0, h3, h4, h]
    refine TS.callW kp (.cons (.sl (Dws.self (by simp))) (.cons (.self (by simp)) .nil)) ?_
    simp [h0, h3, h4, h]
    exact ⟨i + 1, by omega, rfl, wrap_next h (by omega), by omega⟩
  · have : i = l.length := by omega
    subst this
    simp [h0, h3, h4]
    exact Frz.slN (f := AV.int .i64)
/-- those of the first i that the other has -/
def shR (b : List Int) (l : List Int) : List Int := setI (l.filter fun v => decide (v ∈ b))
theorem shR_next {b l : List Int} {i : Nat} (h : i < l.length) : shR b (l.take (i + 1)) = if l[i] ∈ b then putI l[i] (shR b (l.take i)) else shR b (l.take i) := by
  unfold shR setI
  rw [take_next h, List.filter_append, List.foldl_append]
  by_cases hb : l[i] ∈ b <;> simp [hb]
theorem shR_eq (a b : List Int) : shR b a = sharedI a b := by
  refine rises_eq (setI_rises _) (rises_filter (setI_rises a)) fun x => ?_
  rw [shR, setI_mem, sharedI, List.mem_filter, List.mem_filter, setI_mem]
theorem T_rshared21 (a b : List Int) (ha : a.length ≤ 1000000) (hb : b.length < 4611686018427387904) : T Tryz.prog 75 [.sl .no (ints' a), .sl .no (ints' b)] (.sl .no (ints' (sharedI a b))) := by
  refine T.introF (TS.body mix Tryz.func75 (by kernel_rfl) rfl (by kernel_rfl) (by simp) ?_)
  simp
  refine vc_loop (fun i : Nat => a.length - i) (fun i e H => e 0 = .sl .no (ints' a) ∧ e 1 = .sl .no (ints' b) ∧ (∃ own, e 5 = .sl own (ints' (shR b (a.take i)))) ∧ e 6 = .int .i64 i ∧ i ≤ a.length ∧ H = []) 0 ?_ ?_
  · simp [shR, setI]
  rintro i e H ⟨h0, h1, ⟨own, h5⟩, h6, hi, rfl⟩
  by_cases h : i < a.length
  · have hsl : (shR b (a.take i)).length ≤ i := by
      have h1 := setI_len ((a.take i).filter fun v => decide (v ∈ b))
      have h2 := List.length_filter_le (fun v => decide (v ∈ b)) (a.take i)
      rw [List.length_take] at h2
      unfold shR
      omega
    have kh := T_has21 b a[i] hb
    have kp := T_put21 (shR b (a.take i)) a[i] (by omega) (setI_rises _)
    have hnx := shR_next (b := b) h
    simp [h0, h1, h5, h6, h]
    refine TS.callW kh (Dws.self (by simp)) ?_
    by_cases hv : a[i] ∈ b
    · rw [if_pos hv] at hnx
      rw [← hnx] at kp
      simp [h0, h1, h5, h6, h, hv]
      refine TS.callW kp (.cons (.sl (Dws.self (by simp))) (.cons (.self (by simp)) .nil)) ?_
      simp [h0, h1, h5, h6, h]
      exact ⟨i + 1, by omega, rfl, wrap_next h (by omega), by omega⟩
    · rw [if_neg hv] at hnx
      simp [h0, h1, h5, h6, h, hv]
      exact ⟨i + 1, by omega, by rw [hnx], wrap_next h (by omega), by omega⟩
  · have : i = a.length := by omega
    subst this
    rw [List.take_length, shR_eq] at h5
    simp [h0, h1, h5, h6]
    exact Frz.slN (f := AV.int .i64)
theorem anyI_next {α : Type} {q : α → Bool} {l : List α} {i : Nat} (h : i < l.length) (h0 : (l.take i).any q = false) (hq : q l[i] = false) : (l.take (i + 1)).any q = false := by rw [take_next h, List.any_append, h0]; simp [hq]
theorem T_rwithin21 (a b : List Int) (ha : a.length < 4611686018427387904) (hb : b.length < 4611686018427387904) : T Tryz.prog 74 [.sl .no (ints' a), .sl .no (ints' b)] (.bool (withinI a b)) := by
  refine T.intro (TS.body mix Tryz.func74 (by kernel_rfl) rfl (by kernel_rfl) (by simp) ?_)
  simp
  refine vc_loop (fun i : Nat => a.length - i) (fun i e H => e 0 = .sl .no (ints' a) ∧ e 1 = .sl .no (ints' b) ∧ e 5 = .int .i64 i ∧ i ≤ a.length ∧ ((a.take i).any fun v => !decide (v ∈ b)) = false) 0 ?_ ?_
  · simp
  rintro i e H ⟨h0, h1, h5, hi, hno⟩
  by_cases h : i < a.length
  · have kh := T_has21 b a[i] hb
    simp [h0, h1, h5, h]
    refine TS.callW kh (Dws.self (by simp)) ?_
    by_cases hv : a[i] ∈ b
    · simp [h0, h1, h5, h, hv]
      refine ⟨i + 1, by omega, wrap_next h (by omega), by omega, ?_⟩
      have := anyI_next (q := fun v => !decide (v ∈ b)) h hno (by simp [hv])
      simpa using this
    · have : withinI a b = false := by
        unfold withinI
        have : (a.any fun v => !decide (v ∈ b)) = true := List.any_eq_true.2 ⟨a[i], List.getElem_mem h, by simp [hv]⟩
        rw [this]; rfl
      rw [this]
      simp [h0, h1, h5, h, hv]
  · have : i = a.length := by omega
    subst this
    rw [List.take_length] at hno
    have : withinI a b = true := by unfold withinI; rw [hno]; rfl
    rw [this]
    simp [h0, h1, h5]
end Go.Proofs.YtjplcdeaedflpaaGreatDoor.PL
