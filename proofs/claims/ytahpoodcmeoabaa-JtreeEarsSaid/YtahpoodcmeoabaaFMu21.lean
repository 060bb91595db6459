/- Hypergraphs that come in, and whether they are more than is asked. -/
import Derived.Test.YtahpoodcmeoabaaFGraph5
namespace Go.Proofs.Ytahpoodcmeoabaa.PL
open Go.Proofs
set_option linter.unusedVariables false
set_option linter.unusedSimpArgs false
def muchG (h : List (List Int)) : Bool := ((h.take 20).any fun l => decide (30 < l.length)) || decide (12 < h.length)
theorem T_much21 (h : List (List Int)) (hn : h.length < 4611686018427387904) (hs : ∀ l, l ∈ h → l.length < 4611686018427387904) : T Try.prog 29 [.sl .no (lists' h)] (.bool (muchG h)) := by
  refine T.intro (TS.body mix Try.func29 (by kernel_rfl) rfl (by kernel_rfl) (by simp) ?_)
  simp
  refine vc_loop (fun i : Nat => h.length - i) (fun i e H => e 0 = .sl .no (lists' h) ∧ e 3 = .int .i64 i ∧ i ≤ h.length ∧ i ≤ 20 ∧ ((h.take i).any fun l => decide (30 < l.length)) = false) 0 ?_ ?_
  · simp
  rintro i e H ⟨e0, e3, hi, hi2, hno⟩
  by_cases hlt : i < h.length ∧ i < 20
  · have ew := wrap_next hlt.1 (by omega)
    have hl1 := hlt.1
    have hl2 : (i : Int) < 20 := by omega
    by_cases hb : 30 < (h[i]).length
    · have hb2 : (30 : Int) < (h[i]).length := by omega
      have hm : muchG h = true := by
        unfold muchG
        have : ((h.take 20).any fun l => decide (30 < l.length)) = true := List.any_eq_true.2 ⟨h[i], by rw [List.mem_take_iff_getElem]; exact ⟨i, by omega, rfl⟩, by simpa using hb⟩
        rw [this, Bool.true_or]
      rw [hm]
      simp [e0, e3, hl1, hl2, hb2]
    · have hb2 : ¬ (30 : Int) < (h[i]).length := by omega
      simp [e0, e3, hl1, hl2, hb2]
      have := anyI_next (q := fun l : List Int => decide (30 < l.length)) hl1 hno (by simpa using hb)
      exact ⟨i + 1, by omega, ew, by omega, by omega, by simpa using this⟩
  · have hm : muchG h = decide (12 < h.length) := by
      unfold muchG
      have : ((h.take 20).any fun l => decide (30 < l.length)) = false := by
        by_cases h1 : i < h.length
        · have : i = 20 := by omega
          rw [← this]; exact hno
        · rw [List.take_of_length_le (by omega)]
          rw [List.take_of_length_le (by omega)] at hno
          exact hno
      rw [this, Bool.false_or]
    rw [hm]
    by_cases h1 : i < h.length
    · have h2 : ¬ (i : Int) < 20 := by omega
      simp [e0, e3, h1, h2]
      try omega
    · simp [e0, e3, h1]
      try omega
theorem muchG_no {h : List (List Int)} (hm : muchG h = false) : h.length ≤ 12 ∧ ∀ l, l ∈ h → l.length ≤ 30 := by
  unfold muchG at hm
  simp only [Bool.or_eq_false_iff, decide_eq_false_iff_not] at hm
  refine ⟨by omega, fun l hl => ?_⟩
  have h1 := hm.1
  rw [List.take_of_length_le (by omega), List.any_eq_false] at h1
  have := h1 l hl
  simp at this
  omega
theorem lists_in {cs : List AV} (h : Sh Try.prog 32 cs) : ∃ l : List (List Int), cs = [.sl .no (lists' l)] ∧ l.length < 4611686018427387904 ∧ ∀ x, x ∈ l → x.length < 4611686018427387904 := by
  obtain ⟨ys, rfl, hy, b⟩ := h.sl_of un_32 ag_22
  obtain ⟨l, e1, e2, e3⟩ := list_in (f := slA (AV.int .i64)) (g := mkAV false) (Q := fun x => x.length < 4611686018427387904) (fun y hy' => by
    obtain ⟨x, h1, _, h3⟩ := ints_in (hy y hy')
    exact ⟨x, by rw [h1]; rfl, h3⟩)
  have hb : 1 ≤ Try.prog.bytesOf 22 := by decide +kernel
  have hr := reach_lt'
  have := Nat.mul_le_mul_left ys.length hb
  exact ⟨l, by rw [e1]; rfl, by omega, e3⟩
end Go.Proofs.Ytahpoodcmeoabaa.PL
