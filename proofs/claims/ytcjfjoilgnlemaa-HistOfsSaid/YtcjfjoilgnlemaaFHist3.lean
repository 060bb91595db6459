/- Marks of numbers: the statement. -/
import Derived.Test.YtcjfjoilgnlemaaFHist2
namespace Go.Proofs.Ytcjfjoilgnlemaa.PL
open Go.Proofs
set_option linter.unusedVariables false
set_option linter.unusedSimpArgs false
theorem cut_sorted {n : Int} : ∀ {s : List Int}, s.Pairwise (· ≤ ·) → ∀ j (h : j < s.length), s[j] < n ↔ j < belowF s n
  | [], _, j, h => by simp at h
  | a :: t, hs, j, h => by
    obtain ⟨h1, h2⟩ := List.pairwise_cons.1 hs
    have ih := cut_sorted (n := n) h2
    have hb : belowF (a :: t) n = (if a < n then 1 else 0) + belowF t n := by
      unfold belowF
      by_cases ha : a < n <;> simp [ha]; omega
    by_cases ha : a < n
    · rw [hb, if_pos ha]
      match j, h with
      | 0, _ => simp [ha]; omega
      | j + 1, h =>
        have := ih j (by simpa using h)
        simp only [List.getElem_cons_succ]
        omega
    · have hz : belowF t n = 0 := by
        rcases Nat.eq_zero_or_pos (belowF t n) with h0 | h0
        · exact h0
        · have hl := belowF_le t n
          have := (ih 0 (by omega)).2 h0
          have h3 := h1 _ (List.getElem_mem (show 0 < t.length by omega))
          omega
      rw [hb, if_neg ha, hz]
      have : a ≤ (a :: t)[j] := by
        match j, h with
        | 0, _ => simp
        | j + 1, h => exact h1 _ (List.getElem_mem (by simpa using h))
      omega
theorem belowF_perm {a b : List Int} (h : a.Perm b) (n : Int) : belowF a n = belowF b n := (h.filter _).length_eq
theorem mkI_mono {N i j : Nat} (h : i ≤ j) : mkI N i ≤ mkI N j := Nat.div_le_div_right (Nat.mul_le_mul_right _ h)
theorem marks_cut {l : List Int} (h0 : l ≠ []) (n : Int) : ∀ i, i < 9 → (i < belowF (marksF l) n ↔ mkI l.length i < belowF l n) := by
  intro i hi
  have hlp : 0 < l.length := List.length_pos_iff.2 h0
  have hsl := sortI_len l
  have hss := sortI_sorted l
  rw [marksF_of h0, ← belowF_perm (sortI_perm l) n]
  have hg : ∀ j (h : j < (marksK l 9).length), (marksK l 9)[j] = (sortI l)[mkI l.length j]'(by have := mkI_lt (n := l.length) (i := j) (by simpa [marksK] using h) hlp; omega) := fun j h => by
    have h9 : j < 9 := by simpa [marksK] using h
    have := mkI_lt (n := l.length) h9 hlp
    simp only [marksK, List.getElem_map, List.getElem_range]
    rw [List.getElem?_eq_getElem (by omega)]
    rfl
  have hms : (marksK l 9).Pairwise (· ≤ ·) := by
    rw [List.pairwise_iff_getElem]
    intro a b ha hb hab
    rw [hg a ha, hg b hb]
    have hm := mkI_mono (N := l.length) (Nat.le_of_lt hab)
    rcases Nat.lt_or_ge (mkI l.length a) (mkI l.length b) with h | h
    · exact (List.pairwise_iff_getElem.1 hss) _ _ _ _ h
    · have : mkI l.length a = mkI l.length b := by omega
      simp [this]
  have h1 := cut_sorted (n := n) hms i (by simp [marksK]; omega)
  have hml := mkI_lt hi hlp
  have h2 := cut_sorted (n := n) hss (mkI l.length i) (by omega)
  rw [hg i (by simp [marksK]; omega)] at h1
  rw [← h1, h2]
theorem marks_law (l : List Int) (n : Int) : belowF (marksF l) n ≤ 9 ∧ (belowF (marksF l) n = 0 → belowF l n = 0) ∧ (belowF (marksF l) n = 9 → belowF l n = l.length) ∧ (0 < belowF (marksF l) n → belowF (marksF l) n < 9 → l ≠ [] ∧ mkI l.length (belowF (marksF l) n - 1) < belowF l n ∧ belowF l n ≤ mkI l.length (belowF (marksF l) n)) := by
  by_cases h0 : l = []
  · subst h0; simp [marksF, belowF]
  have hlp : 0 < l.length := List.length_pos_iff.2 h0
  have hb := belowF_le (marksF l) n
  have hl : (marksF l).length = 9 := by rw [marksF_of h0, marksK_len]
  have hc := marks_cut h0 n
  have hle := belowF_le l n
  obtain ⟨k, hk⟩ : ∃ k, k = belowF (marksF l) n := ⟨_, rfl⟩
  obtain ⟨c, hcc⟩ : ∃ c, c = belowF l n := ⟨_, rfl⟩
  simp only [← hk, ← hcc] at *
  refine ⟨by omega, fun h => ?_, fun h => ?_, fun h1 h2 => ⟨h0, ?_, ?_⟩⟩
  · have := hc 0 (by omega)
    simp [mkI] at this
    omega
  · have := hc 8 (by omega)
    have h8 : mkI l.length 8 = l.length - 1 := by unfold mkI; omega
    omega
  · exact (hc (k - 1) (by omega)).1 (by omega)
  · have := hc k h2
    omega
theorem live27_is : marksF [5, 1, 3] = [1, 1, 1, 1, 3, 3, 3, 3, 5] := by
  have hs : sortI [5, 1, 3] = [1, 3, 5] := (sort_eq (a := [1, 3, 5]) (by decide) (by decide)).symm
  unfold marksF
  rw [hs]
  rfl
theorem T_live27 : T Try.prog 10 [] (.bool true) := by
  have k1 := T_marks [5, 1, 3] (by simp)
  rw [live27_is] at k1
  have k2 := T_sameList21 [1, 1, 1, 1, 3, 3, 3, 3, 5] [1, 1, 1, 1, 3, 3, 3, 3, 5] (by simp)
  have k3 := T_hbelow [1, 1, 1, 1, 3, 3, 3, 3, 5] 3 (by simp)
  have hb : belowF [1, 1, 1, 1, 3, 3, 3, 3, 5] 3 = 4 := by decide
  rw [hb] at k3
  simp [slA, avs] at k1 k2 k3
  refine T.intro (TS.body mix Try.func10 (by kernel_rfl) rfl (by kernel_rfl) (by simp) ?_)
  simp
  refine TS.callW k1 (.cons (.sl (Dws.self (by simp [AV.pls]))) .nil) ?_
  simp
  refine TS.callW k2 (.cons (.self (by simp)) (.cons (.sl (Dws.self (by simp [AV.pls]))) .nil)) ?_
  simp
  refine GTK.callW (fun _ => ⟨k3, Dws.self (by simp)⟩) ?_
  simp
theorem T_HistMarks (l : List Int) (n : Int) (hl : l.length < 4611686018427387904) : T Try.prog 3 [.sl .no (ints' l), .int .i64 n] (.bool true) := by
  refine T.intro (TS.body mix Try.func3 (by kernel_rfl) rfl (by kernel_rfl) (by simp) ?_)
  simp
  by_cases h1 : 100 < (l.length : Int)
  · simp [h1]
    refine TS.callW T_live27 .nil ?_
    simp
  have hl2 : l.length ≤ 100 := by omega
  have k1 := T_marks l (by omega)
  have k2 := T_rmarks l (by omega)
  obtain ⟨m, hm⟩ : ∃ m, m = marksF l := ⟨_, rfl⟩
  have hlaw := marks_law l n
  have hml : m.length ≤ 9 := by rw [hm, marksF]; split <;> simp
  rw [← hm] at k1 k2 hlaw
  have k3 := T_hbelow m n (by omega)
  have k4 := T_rbelow l n (by omega)
  have k5 := T_rbelow m n (by omega)
  have k6 := T_hbelow l n (by omega)
  have k7 := T_sameList21 m m (by omega)
  obtain ⟨k, hk⟩ : ∃ k, k = belowF m n := ⟨_, rfl⟩
  obtain ⟨c, hc⟩ : ∃ c, c = belowF l n := ⟨_, rfl⟩
  rw [← hk] at k3 k5
  rw [← hc] at k4 k6
  simp only [← hk, ← hc] at hlaw
  simp at k7
  simp [h1]
  refine TS.callW k1 (Dws.self (by simp)) ?_
  simp
  refine TS.callW k3 (Dws.self (by simp)) ?_
  simp
  refine TS.callW k4 (Dws.self (by simp)) ?_
  simp
  refine TS.callW k2 (Dws.self (by simp)) ?_
  simp
  refine TS.callW k7 (Dws.self (by simp)) ?_
  simp
  refine GTK.callW (fun _ => ⟨k5, Dws.self (by simp)⟩) ?_
  simp
  refine GTK.callW (fun _ => ⟨k6, Dws.self (by simp)⟩) ?_
  obtain ⟨w1, w2, w3, w4⟩ := hlaw
  by_cases hk0 : k = 0
  · have hc0 := w2 hk0
    subst hk0 hc0
    simp
    refine GTK.callW (fun _ => ⟨T_live27, .nil⟩) ?_
    simp
  by_cases hk9 : k = 9
  · have hc0 := w3 hk9
    subst hk9
    simp [hc0]
    refine GTK.callW (fun _ => ⟨T_live27, .nil⟩) ?_
    simp
  obtain ⟨h0, w5, w6⟩ := w4 (by omega) (by omega)
  have hlp : 0 < l.length := List.length_pos_iff.2 h0
  have hk0' : ¬ (k : Int) = 0 := by omega
  have hk9' : ¬ (k : Int) = 9 := by omega
  obtain ⟨a1, a2⟩ := marks_quo (n := l.length) (i := k) (by omega) (by omega)
  obtain ⟨a3, a4⟩ := mkI_quo (n := l.length) (i := k) (by omega) (by omega)
  obtain ⟨_, b2⟩ := marks_quo (n := l.length) (i := k - 1) (by omega) (by omega)
  obtain ⟨b3, b4⟩ := mkI_quo (n := l.length) (i := k - 1) (by omega) (by omega)
  rcases a1 with a1 | a1
  case inr => omega
  have hks : IntKind.i64.wrap ((k : Int) - 1) = ((k - 1 : Nat) : Int) := by rw [wrap_i64 (by omega) (by omega)]; omega
  simp [hk0, hk9, hk0', hk9', a1, a2, a3, a4, hks, b2, b3, b4, w5, w6]
  refine GTK.callW (fun _ => ⟨T_live27, .nil⟩) ?_
  simp
theorem S_HistMarks {xs : List AV} (h : ShA Try.prog [22, 3] xs) : T Try.prog 3 xs (.bool true) := by
  obtain ⟨y, r, rfl, h0, h⟩ := h.cons_of ag_22
  obtain ⟨y, r, rfl, h1, h⟩ := h.cons_of ag_3
  obtain rfl := h.nil_of
  obtain ⟨l, rfl, _, hl⟩ := ints_in h0
  obtain ⟨n, rfl, _⟩ := h1.int_of un_3
  exact T_HistMarks l n hl
end Go.Proofs.Ytcjfjoilgnlemaa.PL
