/- How many batches, and their bound. -/
import Derived.Test.YtgmhmdmfnmlhmabFReady3
namespace Go.Proofs.Ytgmhmdmfnmlhmab.PL
open Go.Proofs
set_option linter.unusedVariables false
set_option linter.unusedSimpArgs false
def bat (r b : Int) : Int := if r < 1 then 1 else (r - 1) / (max b 1) + 1
theorem div_step {r b : Int} (hr : 1 ≤ r) (hb : 1 ≤ b) : (r - 1) / b + 1 = if 0 < r % b then r / b + 1 else r / b := by
  have h1 := Int.emod_add_mul_ediv r b
  have h2 := Int.emod_nonneg r (show b ≠ 0 by omega)
  have h3 := Int.emod_lt_of_pos r (show 0 < b by omega)
  generalize r % b = m at *
  generalize r / b = q at *
  split
  · rename_i hm
    have : r - 1 = (m - 1) + b * q := by omega
    rw [this, Int.add_mul_ediv_left _ _ (by omega), Int.ediv_eq_zero_of_lt (by omega) (by omega)]
    omega
  · rename_i hm
    have : r - 1 = (b - 1) + b * (q - 1) := by rw [Int.mul_sub]; omega
    rw [this, Int.add_mul_ediv_left _ _ (by omega), Int.ediv_eq_zero_of_lt (by omega) (by omega)]
    omega
theorem div_le {r b : Int} (hr : 0 ≤ r) (hb : 1 ≤ b) : 0 ≤ r / b ∧ r / b ≤ r := ⟨Int.ediv_nonneg hr (by omega), Int.ediv_le_self _ hr⟩
theorem T_batches (r b : Int) (hr : i64 r) (hb : i64 b) : T Try.prog 52 [.int .i64 r, .int .i64 b] (.int .i64 (bat r b)) := by
  unfold i64 at *
  have e0 : (if 0 > r then (0 : Int) else r) = max r 0 := by omega
  have e1 : (if 1 > b then (1 : Int) else b) = max b 1 := by omega
  have q1 : (max r 0).tdiv (max b 1) = max r 0 / max b 1 := Int.tdiv_eq_ediv_of_nonneg (by omega)
  have q2 : (max r 0).tmod (max b 1) = max r 0 % max b 1 := Int.tmod_eq_emod_of_nonneg (by omega)
  have d := div_le (r := max r 0) (b := max b 1) (by omega) (by omega)
  have w1 : IntKind.i64.wrap (max r 0 / max b 1) = max r 0 / max b 1 := wrap_i64 (by omega) (by omega)
  refine T.intro (TS.body mix Try.func52 (by kernel_rfl) rfl (by kernel_rfl) (by simp) ?_)
  simp [e0, e1, q1, q2, w1]
  have ds := fun h : 1 ≤ r => div_step h (show 1 ≤ max b 1 by omega)
  have em : 1 ≤ r → max r 0 = r := fun h => by omega
  have hpos : 1 ≤ r → 0 ≤ (r - 1) / max b 1 := fun h => Int.ediv_nonneg (by omega) (by omega)
  have h0 : r < 1 → max r 0 / max b 1 = 0 ∧ max r 0 % max b 1 = 0 := fun h => by rw [show max r 0 = 0 by omega]; simp
  refine ⟨by omega, condK_of (fun h => ?_) (fun h => ?_)⟩
  · simp at h
    have hr1 : 1 ≤ r := by
      rcases (show r < 1 ∨ 1 ≤ r by omega) with h1 | h1
      · have := (h0 h1).2; omega
      · exact h1
    have e := ds hr1
    rw [em hr1] at *
    rw [if_pos h] at e
    have hq : r / max b 1 < 9223372036854775807 := by
      rcases (show b < 2 ∨ 2 ≤ b by omega) with h1 | h1
      · rw [show max b 1 = 1 by omega] at h; simp at h
      · have := Int.ediv_lt_self_of_pos_of_ne_one (x := r) (y := max b 1) (by omega) (by omega)
        omega
    have w2 : IntKind.i64.wrap (r / max b 1 + 1) = r / max b 1 + 1 := wrap_i64 (by omega) (by omega)
    have hb' : bat r b = r / max b 1 + 1 := by unfold bat; rw [if_neg (by omega), e]
    rw [hb']
    simp [w2]
    omega
  · simp at h
    rcases (show r < 1 ∨ 1 ≤ r by omega) with h1 | h1
    · have hb' : bat r b = 1 := by unfold bat; rw [if_pos h1]
      rw [hb']
      simp [(h0 h1).1]
    · have e := ds h1
      rw [em h1] at *
      rw [if_neg (by omega)] at e
      have hb' : bat r b = r / max b 1 := by unfold bat; rw [if_neg (by omega), e]
      have := hpos h1
      rw [hb']
      simp
      omega
theorem T_rbatches33 (r b : Int) (hr : i64 r) (hb : i64 b) : T Try.prog 53 [.int .i64 r, .int .i64 b] (.int .i64 (bat r b)) := by
  unfold i64 at *
  have q1 : 1 ≤ r → 1 ≤ b → (r - 1).tdiv b = (r - 1) / b := fun _ _ => Int.tdiv_eq_ediv_of_nonneg (by omega)
  refine T.intro (TS.body mix Try.func53 (by kernel_rfl) rfl (by kernel_rfl) (by simp) ?_)
  simp
  refine condK_of (fun h => ?_) (fun h => ?_)
  · simp at h
    simp
    refine condK_of (fun h2 => ?_) (fun h2 => ?_)
    · simp at h2
      simp [bat]; omega
    · simp at h2
      have w1 : IntKind.i64.wrap (r - 1) = r - 1 := wrap_i64 (by omega) (by omega)
      have w2 : IntKind.i64.wrap (r - 1 + 1) = r - 1 + 1 := wrap_i64 (by omega) (by omega)
      have e1 : max b 1 = 1 := by omega
      simp [w1, bat, e1]
      rw [if_neg (by omega)]
      have w3 : IntKind.i64.wrap r = r := wrap_i64 (by omega) (by omega)
      simp [w3]
  · simp at h
    simp
    refine condK_of (fun h2 => ?_) (fun h2 => ?_)
    · simp at h2
      simp [bat]; omega
    · simp at h2
      have w1 : IntKind.i64.wrap (r - 1) = r - 1 := wrap_i64 (by omega) (by omega)
      have d := div_le (r := r - 1) (b := b) (by omega) (by omega)
      have w2 : IntKind.i64.wrap ((r - 1) / b) = (r - 1) / b := wrap_i64 (by omega) (by omega)
      have w3 : IntKind.i64.wrap ((r - 1) / b + 1) = (r - 1) / b + 1 := wrap_i64 (by omega) (by omega)
      have e1 : max b 1 = b := by omega
      simp [w1, q1 (by omega) (by omega), w2, w3, bat, e1]
      omega
def cutS (n : Int) : Int := max 0 (min n 4611686018427387904)
def plusS (a b : Int) : Int := min (a + cutS b) 4611686018427387904
def addS (l : List Int) : Int := l.foldl plusS 0
theorem cutS_range (n : Int) : 0 ≤ cutS n ∧ cutS n ≤ 4611686018427387904 := by unfold cutS; omega
theorem plusS_range {a b : Int} (h : 0 ≤ a ∧ a ≤ 4611686018427387904) : 0 ≤ plusS a b ∧ plusS a b ≤ 4611686018427387904 := by have := cutS_range b; unfold plusS; omega
theorem addS_next {l : List Int} {i : Nat} (h : i < l.length) : addS (l.take (i + 1)) = plusS (addS (l.take i)) l[i] := by unfold addS; rw [take_next h, List.foldl_append]; rfl
theorem addS_range (l : List Int) : 0 ≤ addS l ∧ addS l ≤ 4611686018427387904 := by
  have : ∀ (l : List Int) (a : Int), 0 ≤ a ∧ a ≤ 4611686018427387904 → 0 ≤ l.foldl plusS a ∧ l.foldl plusS a ≤ 4611686018427387904 := by
    intro l
    induction l with
    | nil => intro a h; exact h
    | cons x l ih => intro a h; exact ih _ (plusS_range h)
  exact this l 0 (by omega)
theorem T_cut (n : Int) : T Try.prog 127 [.int .i64 n] (.int .i64 (cutS n)) := by
  refine T.intro (TS.body mix Try.func127 (by kernel_rfl) rfl (by kernel_rfl) (by simp) ?_)
  simp [cutS]
  omega
theorem T_plus (a b : Int) (ha : 0 ≤ a ∧ a ≤ 4611686018427387904) (hb : 0 ≤ b ∧ b ≤ 4611686018427387904) : T Try.prog 116 [.int .u64 a, .int .u64 b] (.int .u64 (min (a + b) 4611686018427387904)) := by
  have w : IntKind.u64.wrap (a + b) = a + b := wrap_u64 (by omega) (by omega)
  refine T.intro (TS.body mix Try.func116 (by kernel_rfl) rfl (by kernel_rfl) (by simp) ?_)
  simp [w]
  omega
theorem T_rcut26 (n : Int) : T Try.prog 117 [.int .i64 n] (.int .i64 (cutS n)) := by
  refine T.intro (TS.body mix Try.func117 (by kernel_rfl) rfl (by kernel_rfl) (by simp) ?_)
  simp [condK_iff, cutS]
  omega
theorem T_rplus26 (a b : Int) (ha : 0 ≤ a ∧ a ≤ 4611686018427387904) : T Try.prog 94 [.int .i64 a, .int .i64 b] (.int .i64 (plusS a b)) := by
  have hc : cutS a = a := by unfold cutS; omega
  have hb := cutS_range b
  have f1 := T_rcut26 a
  rw [hc] at f1
  refine T.intro (TS.body mix Try.func94 (by kernel_rfl) rfl (by kernel_rfl) (by simp) ?_)
  simp
  refine TS.call' f1 (by simp) ?_
  simp
  refine TS.call' (T_rcut26 b) (by simp) ?_
  have w1 : IntKind.i64.wrap (4611686018427387904 - cutS b) = 4611686018427387904 - cutS b := wrap_i64 (by omega) (by omega)
  simp [w1]
  refine condK_of (fun h => ?_) (fun h => ?_)
  · simp at h
    simp [plusS]; omega
  · simp at h
    have w2 : IntKind.i64.wrap (a + cutS b) = a + cutS b := wrap_i64 (by omega) (by omega)
    simp [w2, plusS]; omega
theorem T_fold (l : List Int) (hl : l.length < 4611686018427387904) : T Try.prog 115 [.int .u64 0, .fn (.func 116) [] [], slA (AV.int .i64) l] (.int .i64 (addS l)) := by
  refine T.intro (TS.body mix Try.func115 (by kernel_rfl) rfl (by kernel_rfl) (by simp) ?_)
  simp
  refine vc_loop (fun i : Nat => l.length - i) (fun i e H => e 0 = .int .u64 (addS (l.take i)) ∧ e 1 = .fn (.func 116) [] [] ∧ e 9 = slA (AV.int .i64) l ∧ e 10 = .int .i64 l.length ∧ e 11 = .int .i64 i ∧ i ≤ l.length) 0 ?_ ?_
  · simp [addS]
  rintro i e H ⟨e0, e1, e9, e10, e11, hi⟩
  by_cases h : i < l.length
  · have ew := wrap_next h (by omega)
    have hn := addS_next h
    have hr := addS_range (l.take i)
    have hc := cutS_range l[i]
    have w : IntKind.u64.wrap (cutS l[i]) = cutS l[i] := wrap_u64 (by omega) (by omega)
    simp [e0, e1, e9, e10, e11, h]
    refine TS.call' (T_cut l[i]) (by simp) ?_
    simp [e0, e1, e9, e10, e11, h, w]
    refine TS.call' (T_plus _ _ hr hc) (by simp) ?_
    simp [e0, e1, e9, e10, e11, h]
    exact ⟨i + 1, by omega, by rw [hn]; rfl, ew, by omega⟩
  · have : i = l.length := by omega
    subst this
    rw [List.take_length] at e0
    have hr := addS_range l
    have w : IntKind.i64.wrap (addS l) = addS l := wrap_i64 (by omega) (by omega)
    simp [e0, e1, e9, e10, e11, w]
theorem T_add (l : List Int) (hl : l.length < 4611686018427387904) : T Try.prog 93 [slA (AV.int .i64) l] (.int .i64 (addS l)) := by
  refine T.intro (TS.body mix Try.func93 (by kernel_rfl) rfl (by kernel_rfl) (by simp) ?_)
  simp
  refine TS.call' (T_fold l hl) (by simp) ?_
  simp
end Go.Proofs.Ytgmhmdmfnmlhmab.PL
