/- Marks of numbers. -/
import Derived.Test.YtcjfjoilgnlemaaFSeq2
namespace Go.Proofs.Ytcjfjoilgnlemaa.PL
open Go.Proofs
set_option linter.unusedVariables false
set_option linter.unusedSimpArgs false
theorem sortI_sorted (l : List Int) : (sortI l).Pairwise (· ≤ ·) := by
  have := List.pairwise_mergeSort (le := fun x y : Int => decide (x ≤ y)) (by simp; omega) (by simp; omega) l
  simpa using this
theorem sortI_perm (l : List Int) : (sortI l).Perm l := List.mergeSort_perm l _
theorem sort_uniq {a b : List Int} (ha : a.Pairwise (· ≤ ·)) (hb : b.Pairwise (· ≤ ·)) (h : a.Perm b) : a = b := h.eq_of_pairwise (fun x y _ _ h1 h2 => Int.le_antisymm h1 h2) ha hb
theorem sort_eq {a l : List Int} (ha : a.Pairwise (· ≤ ·)) (h : a.Perm l) : a = sortI l := sort_uniq ha (sortI_sorted l) (h.trans (sortI_perm l).symm)
/-- one number more, behind all that are no more than it -/
theorem insert_sorted {s : List Int} (hs : s.Pairwise (· ≤ ·)) {k : Nat} {x : Int} (hk : k ≤ s.length) (hlo : ∀ h : 0 < k, s[k - 1]'(by omega) ≤ x) (hhi : ∀ j (h : j < s.length), k ≤ j → x ≤ s[j]) : (s.take k ++ x :: s.drop k).Pairwise (· ≤ ·) := by
  rw [List.pairwise_iff_getElem] at hs
  have h1 : ∀ y, y ∈ s.take k → y ≤ x := fun y hy => by
    obtain ⟨j, hj, rfl⟩ := List.mem_iff_getElem.1 hy
    have hj2 : j < k ∧ j < s.length := by simp at hj; omega
    simp only [List.getElem_take]
    have := hlo (by omega)
    rcases Nat.lt_or_ge j (k - 1) with h | h
    · exact Int.le_trans (hs j (k - 1) hj2.2 (by omega) h) this
    · have : j = k - 1 := by omega
      subst this; assumption
  have h2 : ∀ y, y ∈ s.drop k → x ≤ y := fun y hy => by
    obtain ⟨j, hj, rfl⟩ := List.mem_iff_getElem.1 hy
    simp only [List.getElem_drop]
    exact hhi _ _ (by omega)
  rw [← List.pairwise_iff_getElem] at hs
  refine List.pairwise_append.2 ⟨hs.take, List.pairwise_cons.2 ⟨h2, hs.drop⟩, fun a ha b hb => ?_⟩
  rcases List.mem_cons.1 hb with rfl | hb
  · exact h1 a ha
  · exact Int.le_trans (h1 a ha) (h2 b hb)
theorem insert_perm {s : List Int} {k : Nat} {x : Int} : (s.take k ++ x :: s.drop k).Perm (s ++ [x]) := by
  have h1 : (s.take k ++ x :: s.drop k).Perm (x :: (s.take k ++ s.drop k)) := List.perm_middle
  rw [List.take_append_drop] at h1
  exact h1.trans (List.perm_append_singleton x s).symm
def belowF (l : List Int) (n : Int) : Nat := (l.filter fun x => decide (x < n)).length
theorem belowF_le (l : List Int) (n : Int) : belowF l n ≤ l.length := List.length_filter_le ..
theorem belowF_next {l : List Int} {n : Int} {i : Nat} (h : i < l.length) : belowF (l.take (i + 1)) n = belowF (l.take i) n + if l[i] < n then 1 else 0 := by
  unfold belowF
  rw [take_next h, List.filter_append, List.length_append]
  by_cases h2 : l[i] < n <;> simp [h2]
theorem T_hbelow (l : List Int) (n : Int) (hl : l.length ≤ 1000000) : T Try.prog 12 [.sl .no (ints' l), .int .i64 n] (.int .i64 (belowF l n)) := by
  refine T.intro (TS.body mix Try.func12 (by kernel_rfl) rfl (by kernel_rfl) (by simp) ?_)
  simp
  refine vc_loop (fun i : Nat => l.length - i) (fun i e H => e 1 = .int .i64 n ∧ e 5 = .int .i64 (belowF (l.take i) n) ∧ e 8 = .sl .no (ints' l) ∧ e 9 = .int .i64 l.length ∧ e 10 = .int .i64 i ∧ i ≤ l.length) 0 ?_ ?_
  · simp [belowF]
  rintro i e H ⟨e1, e5, e8, e9, e10, hi⟩
  by_cases hlt : i < l.length
  · have ew := wrap_next hlt (by omega)
    have hb := belowF_le (l.take i) n
    rw [List.length_take] at hb
    have hnx := belowF_next (n := n) hlt
    by_cases h2 : l[i] < n
    · have ew2 : IntKind.i64.wrap ((belowF (l.take i) n : Int) + 1) = ((belowF (l.take i) n + 1 : Nat) : Int) := wrap_next (n := l.length + 1) (by omega) (by omega)
      simp [e1, e5, e8, e9, e10, hlt, h2]
      exact ⟨i + 1, by omega, by rw [ew2, hnx, if_pos h2], ew, by omega⟩
    · simp [e1, e5, e8, e9, e10, hlt, h2]
      exact ⟨i + 1, by omega, by rw [hnx, if_neg h2]; simp, ew, by omega⟩
  · have : i = l.length := by omega
    subst this
    rw [List.take_length] at e5
    simp [e1, e5, e8, e9, e10]
theorem T_rbelow (l : List Int) (n : Int) (hl : l.length ≤ 1000000) : T Try.prog 13 [.sl .no (ints' l), .int .i64 n] (.int .i64 (belowF l n)) := by
  refine T.intro (TS.body mix Try.func13 (by kernel_rfl) rfl (by kernel_rfl) (by simp) ?_)
  simp
  refine vc_loop (fun i : Nat => l.length - i) (fun i e H => e 0 = .sl .no (ints' l) ∧ e 1 = .int .i64 n ∧ e 5 = .int .i64 (belowF (l.take i) n) ∧ e 6 = .int .i64 i ∧ i ≤ l.length) 0 ?_ ?_
  · simp [belowF]
  rintro i e H ⟨e0, e1, e5, e6, hi⟩
  by_cases hlt : i < l.length
  · have ew := wrap_next hlt (by omega)
    have hb := belowF_le (l.take i) n
    rw [List.length_take] at hb
    have hnx := belowF_next (n := n) hlt
    by_cases h2 : l[i] < n
    · have ew2 : IntKind.i64.wrap ((belowF (l.take i) n : Int) + 1) = ((belowF (l.take i) n + 1 : Nat) : Int) := wrap_next (n := l.length + 1) (by omega) (by omega)
      simp [e0, e1, e5, e6, hlt, h2]
      exact ⟨i + 1, by omega, by rw [ew2, hnx, if_pos h2], ew, by omega⟩
    · simp [e0, e1, e5, e6, hlt, h2]
      exact ⟨i + 1, by omega, by rw [hnx, if_neg h2]; simp, ew, by omega⟩
  · have : i = l.length := by omega
    subst this
    rw [List.take_length] at e5
    simp [e0, e1, e5, e6]
/-- a list told with any own -/
theorem T_rsort (l : List Int) (hl : l.length ≤ 1000000) : T Try.prog 59 [.sl .no (ints' l)] (.sl .no (ints' (sortI l))) := by
  refine T.introF (TS.body mix Try.func59 (by kernel_rfl) rfl (by kernel_rfl) (by simp) ?_)
  simp
  refine vc_loop (fun i : Nat => l.length - i) (fun i e H => e 0 = .sl .no (ints' l) ∧ (∃ own, e 3 = .sl own (ints' (sortI (l.take i)))) ∧ e 4 = .int .i64 i ∧ i ≤ l.length) 0 ?_ ?_
  · simp
  rintro i e H ⟨e0, ⟨own, e3⟩, e4, hi⟩
  have hsl : (sortI (l.take i)).length = i := by rw [sortI_len, List.length_take]; omega
  have hss := sortI_sorted (l.take i)
  have hsp := sortI_perm (l.take i)
  by_cases hlt : i < l.length
  · have ew := wrap_next hlt (by omega)
    have htk := take_next hlt
    obtain ⟨s, hs⟩ : ∃ s, s = sortI (l.take i) := ⟨_, rfl⟩
    rw [← hs] at hsl hss hsp e3
    obtain ⟨x, hx⟩ : ∃ x, x = l[i] := ⟨_, rfl⟩
    simp [e0, e3, e4, hlt]
    refine vc_loop (fun k : Nat => k) (fun k e H => e 0 = .sl .no (ints' l) ∧ e 3 = .sl own (ints' s) ∧ e 4 = .int .i64 i ∧ e 5 = .int .i64 k ∧ k ≤ s.length ∧ ∀ j (h : j < s.length), k ≤ j → x < s[j]) s.length ?_ ?_
    · simp [e0, e3, e4]
      intro j h h'; omega
    clear e0 e3 e4 e H
    rintro k e H ⟨e0, e3, e4, e5, hk, hhi⟩
    have fin : (k = 0 ∨ ∃ h : k - 1 < s.length, s[k - 1] ≤ x) → s.take k ++ x :: s.drop k = sortI (l.take (i + 1)) := fun hlo => by
      refine sort_eq (insert_sorted hss hk (fun h => ?_) fun j h h2 => Int.le_of_lt (hhi j h h2)) ?_
      · rcases hlo with rfl | ⟨_, h2⟩
        · omega
        · exact h2
      · rw [htk, ← hx]
        exact insert_perm.trans (hsp.append_right [x])
    have done : ∀ (hlo : k = 0 ∨ ∃ h : k - 1 < s.length, s[k - 1] ≤ x), True := fun _ => trivial
    have hm : min k s.length = k := by omega
    by_cases hk0 : k = 0
    · subst hk0
      have hf := fin (.inl rfl)
      cases s with
      | nil =>
        simp [e0, e3, e4, e5, hlt, ← hx]
        exact ⟨i + 1, by omega, by rw [← hf]; simp, ew, by omega⟩
      | cons y s =>
        simp at hsl
        simp [e0, e3, e4, e5, hlt, ← hx]
        exact ⟨by omega, ⟨by omega, by omega⟩, i + 1, by omega, by rw [← hf]; simp, ew, by omega⟩
    have hk1 : k - 1 < s.length := by omega
    have hks : IntKind.i64.wrap ((k : Int) - 1) = ((k - 1 : Nat) : Int) := by rw [wrap_i64 (by omega) (by omega)]; omega
    have hkp : 0 < k := by omega
    by_cases hgt : x < s[k - 1]
    · simp [e0, e3, e4, e5, hlt, ← hx, hkp, hks, hk1, hgt]
      refine ⟨k - 1, by omega, rfl, by omega, fun j hj hkj => ?_⟩
      rcases Nat.lt_or_ge j k with h1 | h1
      · have : j = k - 1 := by omega
        subst this; exact hgt
      · exact hhi j hj h1
    · have hf := fin (.inr ⟨hk1, by omega⟩)
      simp [e0, e3, e4, e5, hlt, ← hx, hkp, hks, hk1, hgt, hm]
      exact ⟨hk, ⟨by omega, by omega⟩, ⟨by omega, by omega⟩, hk, ⟨by omega, by omega⟩, i + 1, by omega, by rw [← hf], ew, by omega⟩
  · have : i = l.length := by omega
    subst this
    rw [List.take_length] at e3
    simp [e0, e3, e4]
    exact Frz.slN (f := AV.int .i64)
end Go.Proofs.Ytcjfjoilgnlemaa.PL
