/- The reference's sets of numbers. -/
import Derived.Test.YtjplcdeaedflpaaDoorFGraph2
namespace Go.Proofs.YtjplcdeaedflpaaDoor.PL
open Go.Proofs
set_option linter.unusedVariables false
set_option linter.unusedSimpArgs false
theorem T_has21 (l : List Int) (v : Int) (hl : l.length < 4611686018427387904) : T Tryd.prog 24 [.sl .no (ints' l), .int .i64 v] (.bool (decide (v ∈ l))) := by
  refine T.intro (TS.body mix Tryd.func24 (by kernel_rfl) rfl (by kernel_rfl) (by simp) ?_)
  simp
  refine vc_loop (fun i : Nat => l.length - i) (fun i e H => e 0 = .sl .no (ints' l) ∧ e 1 = .int .i64 v ∧ e 5 = .int .i64 i ∧ i ≤ l.length ∧ v ∉ l.take i) 0 ?_ ?_
  · simp
  rintro i e H ⟨h0, h1, h5, hi, hno⟩
  by_cases h : i < l.length
  · simp [h0, h1, h5, h]
    refine condK_of (fun h' => ?_) (fun h' => ?_)
    · simp at h'
      have : v ∈ l := by rw [← h']; exact List.getElem_mem h
      simp [this]
    · simp at h'
      simp [h0, h1, h5]
      refine ⟨i + 1, by omega, wrap_next h (by omega), by omega, ?_⟩
      rw [take_next h, List.mem_append]
      simp [hno]
      exact fun e => h' e.symm
  · have : i = l.length := by omega
    subst this
    rw [List.take_length] at hno
    simp [h0, h1, h5, hno]
theorem putI_in {v : Int} : ∀ {l : List Int}, Rises l → v ∈ l → putI v l = l
  | x :: l, h, hv => by
    unfold Rises at h
    rw [List.pairwise_cons] at h
    unfold putI
    rcases List.mem_cons.1 hv with rfl | hv
    · simp
    · have := h.1 v hv
      rw [if_pos this, putI_in h.2 hv]
theorem putI_at {v : Int} : ∀ {l : List Int} {k : Nat}, k ≤ l.length → (∀ j (h : j < l.length), j < k → l[j] < v) → (∀ h : k < l.length, ¬ l[k] < v) → v ∉ l → putI v l = l.take k ++ v :: l.drop k
  | [], k, hk, _, _, _ => by simp at hk; subst hk; rfl
  | x :: l, 0, _, _, h2, h3 => by
    have := h2 (by simp)
    simp at this h3
    unfold putI
    rw [if_neg (by omega), if_neg (by omega)]
    rfl
  | x :: l, k + 1, hk, h1, h2, h3 => by
    have h0 : x < v := h1 0 (by simp) (by omega)
    unfold putI
    rw [if_pos h0, putI_at (k := k) (by simpa using hk) (fun j a b => h1 (j + 1) (by simpa using a) (by omega)) (fun a => h2 (by simpa using a)) (fun hm => h3 (List.mem_cons_of_mem _ hm))]
    rfl
theorem setI_next {l : List Int} {i : Nat} (h : i < l.length) : setI (l.take (i + 1)) = putI l[i] (setI (l.take i)) := by
  unfold setI
  rw [take_next h, List.foldl_append]
  rfl
/-- those of the first i that the other has -/
def shR (b : List Int) (l : List Int) : List Int := setI (l.filter fun v => decide (v ∈ b))
theorem shR_next {b l : List Int} {i : Nat} (h : i < l.length) : shR b (l.take (i + 1)) = if l[i] ∈ b then putI l[i] (shR b (l.take i)) else shR b (l.take i) := by
  unfold shR setI
  rw [take_next h, List.filter_append, List.foldl_append]
  by_cases hb : l[i] ∈ b <;> simp [hb]
theorem shR_eq (a b : List Int) : shR b a = sharedI a b := by
  refine rises_eq (setI_rises _) (rises_filter (setI_rises a)) fun x => ?_
  rw [shR, setI_mem, sharedI, List.mem_filter, List.mem_filter, setI_mem]
theorem anyI_next {α : Type} {q : α → Bool} {l : List α} {i : Nat} (h : i < l.length) (h0 : (l.take i).any q = false) (hq : q l[i] = false) : (l.take (i + 1)).any q = false := by rw [take_next h, List.any_append, h0]; simp [hq]
end Go.Proofs.YtjplcdeaedflpaaDoor.PL
