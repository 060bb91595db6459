/- What sums of numbers tell. -/
import Derived.Test.YtgmhmdmfnmlhmabFArith
namespace Go.Proofs.Ytgmhmdmfnmlhmab.PL
open Go.Proofs
set_option linter.unusedVariables false
set_option linter.unusedSimpArgs false
theorem and32i (a : Int) (h : isI a) : IntKind.i64.wrap (((a % 18446744073709551616).toNat &&& 4294967295 : Nat) : Int) = a % 4294967296 := by
  have e2 : (a % 18446744073709551616).toNat &&& 4294967295 = (a % 18446744073709551616).toNat % 4294967296 := Nat.and_two_pow_sub_one_eq_mod _ 32
  rw [e2, wrapI]
  omega
theorem quo32 (a : Int) : (a - a % 4294967296).tdiv 4294967296 = a / 4294967296 := by
  have : a - a % 4294967296 = 4294967296 * (a / 4294967296) := by omega
  rw [this]
  exact Int.mul_tdiv_cancel_left _ (by decide)
theorem sum_bound : ∀ (l : List Int), (∀ x, x ∈ l → isI x) → -(9223372036854775808 * (l.length : Int)) ≤ l.sum ∧ l.sum ≤ 9223372036854775808 * (l.length : Int)
  | [], _ => by simp
  | a :: l, h => by
    have h1 := h a (List.mem_cons_self ..)
    have h2 := sum_bound l fun x hx => h x (List.mem_cons_of_mem _ hx)
    unfold isI at h1
    simp only [List.sum_cons, List.length_cons]
    omega
theorem sum_next {l : List Int} {i : Nat} (h : i < l.length) : (l.take (i + 1)).sum = (l.take i).sum + l[i] := by
  rw [take_next h, List.sum_append]; simp
theorem T_rsum (l : List Int) (hl : ∀ x, x ∈ l → isI x) (hn : l.length ≤ 1000) : T Try.prog 120 [.sl .no (ints' l)] (.agg [.int .i64 (l.sum / 4294967296), .int .i64 (l.sum % 4294967296)]) := by
  refine T.intro (TS.body mix Try.func120 (by kernel_rfl) rfl (by kernel_rfl) (by simp) ?_)
  simp
  refine vc_loop (fun i : Nat => l.length - i) (fun i e H => e 0 = .sl .no (ints' l) ∧ e 2 = .ptr 0 0 ∧ e 3 = .ptr 1 0 ∧ e 4 = .int .i64 i ∧ i ≤ l.length ∧ H = [.box [.int .i64 0, .int .i64 0], .box [.int .i64 ((l.take i).sum / 4294967296), .int .i64 ((l.take i).sum % 4294967296)]]) 0 ?_ ?_
  · simp
  rintro i e H ⟨h0, h2, h3, h4, hi, rfl⟩
  by_cases h : i < l.length
  · have hx := hl l[i] (List.getElem_mem h)
    have hb := sum_bound (l.take i) fun x hx => hl x (List.mem_of_mem_take hx)
    rw [List.length_take, Nat.min_eq_left (by omega)] at hb
    have en := sum_next h
    generalize hS : (l.take i).sum = S at *
    have ha := and32i l[i] hx
    generalize hX : l[i] = X at *
    unfold isI at hx
    have w1 : IntKind.i64.wrap (X - X % 4294967296) = X - X % 4294967296 := wrap_i64 (by omega) (by omega)
    have w2 : IntKind.i64.wrap (X / 4294967296) = X / 4294967296 := wrap_i64 (by omega) (by omega)
    have w3 : IntKind.i64.wrap (S / 4294967296 + X / 4294967296) = S / 4294967296 + X / 4294967296 := wrap_i64 (by omega) (by omega)
    have w4 : IntKind.i64.wrap (S % 4294967296 + X % 4294967296) = S % 4294967296 + X % 4294967296 := wrap_i64 (by omega) (by omega)
    have q4 : (S % 4294967296 + X % 4294967296).tdiv 4294967296 = (S % 4294967296 + X % 4294967296) / 4294967296 := Int.tdiv_eq_ediv_of_nonneg (by omega)
    have m4 : (S % 4294967296 + X % 4294967296).tmod 4294967296 = (S % 4294967296 + X % 4294967296) % 4294967296 := Int.tmod_eq_emod_of_nonneg (by omega)
    have w5 : IntKind.i64.wrap ((S % 4294967296 + X % 4294967296) / 4294967296) = (S % 4294967296 + X % 4294967296) / 4294967296 := wrap_i64 (by omega) (by omega)
    have w6 : IntKind.i64.wrap (S / 4294967296 + X / 4294967296 + (S % 4294967296 + X % 4294967296) / 4294967296) = S / 4294967296 + X / 4294967296 + (S % 4294967296 + X % 4294967296) / 4294967296 := wrap_i64 (by omega) (by omega)
    simp [h0, h2, h3, h4, h, hX, ha, w1, quo32, w2, w3, w4, q4, m4, w5, w6]
    exact ⟨i + 1, by omega, wrap_next h (by omega), by omega, by rw [en]; omega, by rw [en]; try omega⟩
  · have : i = l.length := by omega
    subst this
    simp [h0, h2, h3, h4]
theorem T_rtotal (x : Int) (h : -4611686018427387904 ≤ x / 4294967296 ∧ x / 4294967296 ≤ 4611686018427387904) : T Try.prog 119 [.agg [.int .i64 (x / 4294967296), .int .i64 (x % 4294967296)]] (.tup [.int .i64 (narN x), .bool (decide (isI x))]) := by
  refine T.intro (TS.body mix Try.func119 (by kernel_rfl) rfl (by kernel_rfl) (by simp) ?_)
  simp
  refine condK_of (fun h2 => ?_) (fun h2 => ?_)
  · simp at h2
    have : ¬ isI x := by unfold isI; omega
    simp [this, narN]
  · simp at h2
    have : isI x := by unfold isI; omega
    have h3 := this
    unfold isI at h3
    simp [this, narN]
    have w1 : IntKind.i64.wrap (x / 4294967296 * 4294967296) = x / 4294967296 * 4294967296 := wrap_i64 (by omega) (by omega)
    rw [w1, wrap_i64 (by omega) (by omega)]
    omega
end Go.Proofs.Ytgmhmdmfnmlhmab.PL
