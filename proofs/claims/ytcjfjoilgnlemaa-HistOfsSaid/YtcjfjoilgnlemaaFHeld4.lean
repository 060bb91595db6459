/- What is said of tables: the same, and how much. -/
import Derived.Test.YtcjfjoilgnlemaaFHeld3
namespace Go.Proofs.Ytcjfjoilgnlemaa.PL
open Go.Proofs
set_option linter.unusedVariables false
set_option linter.unusedSimpArgs false
theorem cst_eq {x y : CSt} : x = y ↔ x.unl = y.unl ∧ x.nul = y.nul ∧ x.marks = y.marks := by
  obtain ⟨a, b, c⟩ := x
  obtain ⟨d, e, f⟩ := y
  simp
theorem sta_eq {x y : Sta} : x = y ↔ x.rows = y.rows ∧ x.cols = y.cols := by
  obtain ⟨a, b⟩ := x
  obtain ⟨d, e⟩ := y
  simp
theorem T_equalH (a b : List Int) (ha : a.length < 4611686018427387904) : T Try.prog 67 [.sl .no (ints' a), .sl .no (ints' b)] (.bool (decide (a = b))) := by
  refine T.intro (TS.body mix Try.func67 (by kernel_rfl) rfl (by kernel_rfl) (by simp) ?_)
  simp
  by_cases hl : a.length = b.length
  · simp [hl]
    refine vc_loop (fun i : Nat => a.length - i) (fun i e H => e 0 = .sl .no (ints' a) ∧ e 1 = .sl .no (ints' b) ∧ e 12 = .int .i64 a.length ∧ e 13 = .int .i64 i ∧ i ≤ a.length ∧ (∀ j (h1 : j < a.length) (h2 : j < b.length), j < i → a[j] = b[j])) 0 ?_ ?_
    · simp [hl]
    rintro i e H ⟨h0, h1, h12, h13, hi, hno⟩
    by_cases h : i < a.length
    · have hb : i < b.length := by omega
      by_cases he : a[i] = b[i]
      · simp [h0, h1, h12, h13, h, hb, he]
        refine ⟨i + 1, by omega, wrap_next h (by omega), by omega, fun j h1 h2 hj => ?_⟩
        rcases Nat.lt_or_ge j i with h3 | h3
        · exact hno j h1 h2 h3
        · have : j = i := by omega
          subst this; exact he
      · have : ¬ a = b := by rintro rfl; exact he rfl
        simp [h0, h1, h12, h13, h, hb, he, this]
    · have : a = b := List.ext_getElem hl fun j h1 h2 => hno j h1 h2 (by omega)
      subst this
      have hn : ¬ i < a.length := h
      simp [h0, h1, h12, h13, hn]
  · have : ¬ a = b := fun e => hl (by rw [e])
    have hl2 : ¬ (a.length : Int) = b.length := by omega
    simp [hl2, this]
theorem T_sameCol (x y : CSt) (hx : x.marks.length ≤ 1000000) : T Try.prog 21 [x.av, y.av] (.bool (decide (x = y))) := by
  have kl := T_sameList21 x.marks y.marks (by omega)
  have hd : decide (x = y) = (decide (x.nul = y.nul) && decide (x.unl = y.unl) && decide (x.marks = y.marks)) := by
    rw [← Bool.decide_and, ← Bool.decide_and]
    exact decide_eq_decide.2 (by rw [cst_eq]; exact ⟨fun ⟨a, b, c⟩ => ⟨⟨b, a⟩, c⟩, fun ⟨⟨b, a⟩, c⟩ => ⟨a, b, c⟩⟩)
  rw [hd]
  refine T.intro (TS.body mix Try.func21 (by kernel_rfl) rfl (by kernel_rfl) (by simp) ?_)
  simp
  refine ⟨fun a b => ⟨a, b⟩, GTK.callW (fun _ => ⟨kl, Dws.self (by simp)⟩) ?_⟩
  simp
theorem T_right1 (x y : CSt) (hx : x.marks.length ≤ 1000000) : T Try.prog 66 [x.av, y.av] (.bool (decide (x = y))) := by
  have kl := T_equalH x.marks y.marks (by omega)
  have hd : decide (x = y) = (decide (x.unl = y.unl) && decide (x.nul = y.nul) && decide (x.marks = y.marks)) := by
    rw [← Bool.decide_and, ← Bool.decide_and]
    exact decide_eq_decide.2 (by rw [cst_eq]; exact ⟨fun ⟨a, b, c⟩ => ⟨⟨a, b⟩, c⟩, fun ⟨⟨a, b⟩, c⟩ => ⟨a, b, c⟩⟩)
  rw [hd]
  refine T.intro (TS.body mix Try.func66 (by kernel_rfl) rfl (by kernel_rfl) (by simp) ?_)
  simp
  refine ⟨fun a b => ⟨a, b⟩, GTK.callW (fun _ => ⟨kl, Dws.self (by simp)⟩) ?_⟩
  simp
theorem T_rsame27 (s t : Sta) (hs : OkS s) : T Try.prog 18 [s.av, t.av] (.bool (decide (s = t))) := by
  have hsl := hs.len
  refine T.intro (TS.body mix Try.func18 (by kernel_rfl) rfl (by kernel_rfl) (by simp) ?_)
  simp
  by_cases h1 : s.rows = t.rows
  case neg =>
    have : ¬ s = t := fun e => h1 (by rw [e])
    simp [h1, this]
  by_cases h2 : s.cols.length = t.cols.length
  case neg =>
    have : ¬ s = t := fun e => h2 (by rw [e])
    have h2' : ¬ (s.cols.length : Int) = t.cols.length := by omega
    simp [h1, h2', this]
  have h2' : (s.cols.length : Int) = t.cols.length := by omega
  simp [h1, h2, h2']
  refine vc_loop (fun i : Nat => t.cols.length - i) (fun i e H => e 2 = .ptr 0 0 ∧ e 3 = .ptr 1 0 ∧ e 5 = .int .i64 i ∧ i ≤ t.cols.length ∧ s.cols.take i = t.cols.take i ∧ H = [.box s.cs, .box t.cs]) 0 ?_ ?_
  · simp [h1]
  rintro i e H ⟨e2, e3, e5, hi, ht, rfl⟩
  by_cases hlt : i < t.cols.length
  · have hlt2 : i < s.cols.length := by omega
    have ew := wrap_next hlt (by omega)
    have kc := T_sameCol s.cols[i] t.cols[i] (hs.ms _ (List.getElem_mem hlt2))
    simp [e2, e3, e5, hlt, hlt2, h2]
    refine TDK.callW kc (Dws.self (by simp)) ?_
    by_cases hc : s.cols[i] = t.cols[i]
    · simp [e2, e3, e5, hlt, hlt2, h2, hc]
      refine ⟨i + 1, by omega, ew, by omega, ?_⟩
      rw [take_next hlt, take_next hlt2, ht, hc]
    · have : ¬ s = t := fun e => hc (by subst e; rfl)
      simp [e2, e3, e5, hlt, hlt2, h2, hc, this]
  · have : i = t.cols.length := by omega
    subst this
    have he : s = t := sta_eq.2 ⟨h1, by rw [List.take_of_length_le (by omega), List.take_of_length_le (by omega)] at ht; exact ht⟩
    simp [e2, e3, e5, h2, he]
theorem T_equalCols (l m : List CSt) (hl : l.length ≤ 1000000) (hm : ∀ x, x ∈ l → x.marks.length ≤ 1000000) : T Try.prog 65 [.sl .no (csts l), .sl .no (csts m), .fn (.func 66) [] []] (.bool (decide (l = m))) := by
  refine T.intro (TS.body mix Try.func65 (by kernel_rfl) rfl (by kernel_rfl) (by simp) ?_)
  simp
  refine condK_of (fun h => ?_) (fun h => ?_)
  · simp at h
    simp
    exact (fun e => h (by rw [e]))
  simp at h
  have hlm : l.length = m.length := by omega
  simp
  refine vc_loop (fun i : Nat => l.length - i) (fun i e H => e 1 = .sl .no (csts m) ∧ e 2 = .fn (.func 66) [] [] ∧ e 15 = .sl .no (csts l) ∧ e 16 = .int .i64 l.length ∧ e 17 = .int .i64 i ∧ i ≤ l.length ∧ l.take i = m.take i) 0 ?_ ?_
  · simp
  rintro i e H ⟨h1, h2, h15, h16, h17, hi, ht⟩
  by_cases hlt : i < l.length
  · have hlt' : i < m.length := by omega
    have hc := T_right1 l[i] m[i] (hm _ (List.getElem_mem hlt))
    simp [h1, h2, h15, h16, h17, hlt, hlt']
    refine TS.call' hc (by simp) ?_
    simp [h1, h2, h15, h16, h17, hlt, hlt']
    refine condK_of (fun h3 => ?_) (fun h3 => ?_)
    · simp at h3
      simp
      exact (fun e => h3 (by simp only [e]))
    · simp at h3
      simp [h1, h2, h15, h16, h17, hlt, hlt']
      refine ⟨i + 1, by omega, wrap_next hlt (by omega), by omega, ?_⟩
      rw [take_next hlt, take_next hlt', ht, h3]
  · have hil : i = l.length := by omega
    subst hil
    simp [h1, h2, h15, h16, h17]
    rw [List.take_length, hlm, List.take_length] at ht
    exact ht
def muchS (s : Sta) : Bool := (s.cols.take 40).any (fun x => decide (60 < x.marks.length)) || decide (30 < s.cols.length)
theorem muchS_no {s : Sta} (h : muchS s = false) : s.cols.length ≤ 30 ∧ ∀ x, x ∈ s.cols → x.marks.length ≤ 60 := by
  unfold muchS at h
  simp only [Bool.or_eq_false_iff, decide_eq_false_iff_not] at h
  have hl : s.cols.length ≤ 30 := by omega
  rw [List.take_of_length_le (by omega), List.any_eq_false] at h
  refine ⟨hl, fun x hx => ?_⟩
  have := h.1 x hx
  simp at this
  exact this
theorem T_much27 (s : Sta) (hl : s.cols.length < 4611686018427387904) : T Try.prog 16 [s.av] (.bool (muchS s)) := by
  refine T.intro (TS.body mix Try.func16 (by kernel_rfl) rfl (by kernel_rfl) (by simp) ?_)
  simp
  refine vc_loop (fun i : Nat => 40 - i) (fun i e H => e 1 = .ptr 0 0 ∧ e 3 = .int .i64 i ∧ i ≤ s.cols.length ∧ i ≤ 40 ∧ (s.cols.take i).any (fun x => decide (60 < x.marks.length)) = false ∧ H = [.box s.cs]) 0 ?_ ?_
  · simp
  rintro i e H ⟨e1, e3, hi, hi2, hno, rfl⟩
  by_cases hlt : i < s.cols.length
  · by_cases h40 : i < 40
    · have ew := wrap_next hlt (by omega)
      have h40' : (i : Int) < 40 := by omega
      by_cases h60 : 60 < (s.cols[i]).marks.length
      · have : muchS s = true := by
          unfold muchS
          have : (s.cols.take 40).any (fun x => decide (60 < x.marks.length)) = true := List.any_eq_true.2 ⟨s.cols[i], List.mem_iff_getElem.2 ⟨i, by simp; omega, by simp⟩, by simp [h60]⟩
          rw [this]; rfl
        have h60' : (60 : Int) < (s.cols[i]).marks.length := by omega
        simp [e1, e3, hlt, h40', h60', this]
      · have h60' : ¬ (60 : Int) < (s.cols[i]).marks.length := by omega
        simp [e1, e3, hlt, h40', h60']
        refine ⟨i + 1, by omega, ew, by omega, by omega, ?_⟩
        rw [take_next hlt]
        intro x hx
        rcases List.mem_append.1 hx with hx | hx
        · have := List.any_eq_false.1 hno x hx
          simpa using this
        · rw [List.mem_singleton] at hx
          subst hx
          omega
    · have h40' : ¬ (i : Int) < 40 := by omega
      have : muchS s = true := by unfold muchS; simp; omega
      have h30 : (30 : Int) < s.cols.length := by omega
      simp [e1, e3, hlt, h40', this, h30]
  · have : i = s.cols.length := by omega
    subst this
    rw [List.take_length] at hno
    have : muchS s = decide (30 < s.cols.length) := by
      unfold muchS
      rw [List.take_of_length_le hi2, hno]; rfl
    rw [this]
    simp [e1, e3]
    omega
end Go.Proofs.Ytcjfjoilgnlemaa.PL
