/- What the functions of numbers tell. -/
import Derived.Test.YtcjfjoilgnlemaaFVal
import Derived.Laws.Externs
namespace Go.Proofs.Ytcjfjoilgnlemaa.PL
open Go.Proofs
set_option linter.unusedVariables false
set_option linter.unusedSimpArgs false
def hi64 (x : Int) : Int := x / 18446744073709551616 % 18446744073709551616
def lo64 (x : Int) : Int := x % 18446744073709551616
/-- a number of 128 bits -/
def wide (x : Int) : AV := .agg [.int .u64 (hi64 x), .int .u64 (lo64 x)]
def isI (n : Int) : Prop := -9223372036854775808 ≤ n ∧ n < 9223372036854775808
instance (n : Int) : Decidable (isI n) := by unfold isI; infer_instance
theorem wrapU (n : Int) : IntKind.wrap .u64 n = n % 18446744073709551616 := by unfold IntKind.wrap; simp [IntKind.signed, IntKind.bits]
theorem wrapI (n : Int) : IntKind.wrap .i64 n = (n + 9223372036854775808) % 18446744073709551616 - 9223372036854775808 := by
  unfold IntKind.wrap; simp [IntKind.signed, IntKind.bits]; omega



theorem hi_nat (x : Int) : ∃ k : Nat, hi64 x = (k : Int) ∧ k < 18446744073709551616 := ⟨(hi64 x).toNat, by unfold hi64; omega, by unfold hi64; omega⟩
theorem lo_nat (x : Int) : ∃ k : Nat, lo64 x = (k : Int) ∧ k < 18446744073709551616 := ⟨(lo64 x).toNat, by unfold lo64; omega, by unfold lo64; omega⟩




theorem and32 (x : Nat) (h : x < 18446744073709551616) : IntKind.u64.wrap (((((x : Nat) : Int) % 18446744073709551616).toNat &&& 4294967295 : Nat) : Int) = ((x % 4294967296 : Nat) : Int) := by
  have e : ((x : Int) % 18446744073709551616).toNat = x := by omega
  have e2 : x &&& 4294967295 = x % 4294967296 := Nat.and_two_pow_sub_one_eq_mod x 32
  rw [e, e2, wrapU]
  omega
theorem shr32 (x : Nat) : ((x : Nat) : Int).fdiv 4294967296 = ((x / 4294967296 : Nat) : Int) := by
  rw [Int.fdiv_eq_ediv_of_nonneg _ (by decide)]; omega
theorem mulU (a b : Nat) (h : a * b < 18446744073709551616) : IntKind.u64.wrap ((a : Int) * (b : Int)) = ((a * b : Nat) : Int) := by
  rw [wrapU, ← Int.natCast_mul]; omega
theorem addU (a b : Nat) (h : a + b < 18446744073709551616) : IntKind.u64.wrap ((a : Int) + (b : Int)) = ((a + b : Nat) : Int) := by
  rw [wrapU, ← Int.natCast_add]; omega
theorem small_mul {a b : Nat} (ha : a < 4294967296) (hb : b < 4294967296) : a * b ≤ 18446744065119617025 := Nat.mul_le_mul (Nat.le_of_lt_succ ha) (Nat.le_of_lt_succ hb)
theorem u64_of {a : Int} (h : isI a) : ∃ A : Nat, IntKind.u64.wrap a = (A : Int) ∧ A < 18446744073709551616 ∧ (A : Int) = if a < 0 then a + 18446744073709551616 else a := by
  unfold isI at h
  exact ⟨(a % 18446744073709551616).toNat, by rw [wrapU]; omega, by omega, by split <;> omega⟩
theorem isI_mul {a b : Int} (ha : isI a) (hb : isI b) : -170141183460469231731687303715884105728 ≤ a * b ∧ a * b < 170141183460469231731687303715884105728 := by
  unfold isI at ha hb
  have h : (a * b).natAbs ≤ 85070591730234615865843651857942052864 := by
    rw [Int.natAbs_mul]
    exact Nat.mul_le_mul (show a.natAbs ≤ 9223372036854775808 by omega) (show b.natAbs ≤ 9223372036854775808 by omega)
  omega


theorem mul_back {a b : Int} (ha : isI a) (hb : isI b) (h0 : a ≠ 0) (h1 : b ≠ 0) (h2 : ¬ (a = -1 ∧ b = -9223372036854775808)) (h3 : ¬ (b = -1 ∧ a = -9223372036854775808)) :
    isI (a * b) ↔ (IntKind.i64.wrap (a * b)).tdiv b = a ∧ (IntKind.i64.wrap (a * b)).tmod b = 0 := by
  constructor
  · intro h
    have h' := h
    unfold isI at h'
    rw [wrap_i64 h'.1 h'.2]
    exact ⟨Int.mul_tdiv_cancel _ h1, Int.mul_tmod_left _ _⟩
  · rintro ⟨g1, g2⟩
    have hw := wrapI (a * b)
    generalize IntKind.i64.wrap (a * b) = n at *
    have hn : n = a * b := by
      have := Int.tdiv_mul_add_tmod n b
      rw [g1, g2] at this
      omega
    unfold isI
    omega
theorem quo_ok {a b : Int} (ha : isI a) (hb : isI b) (h1 : b ≠ 0) (h3 : ¬ (b = -1 ∧ a = -9223372036854775808)) : IntKind.i64.wrap ((IntKind.i64.wrap (a * b)).tdiv b) = (IntKind.i64.wrap (a * b)).tdiv b := by
  have hw := wrapI (a * b)
  have hw2 : b = -1 → a * b = - a := by rintro rfl; omega
  generalize IntKind.i64.wrap (a * b) = n at *
  unfold isI at *
  by_cases e1 : b = 1
  · subst e1; rw [Int.tdiv_one]; exact wrap_i64 (by omega) (by omega)
  · by_cases e2 : b = -1
    · have := hw2 e2
      subst e2
      rw [Int.tdiv_neg, Int.tdiv_one]
      exact wrap_i64 (by omega) (by omega)
    · have h4 : (n.tdiv b).natAbs = n.natAbs / b.natAbs := Int.natAbs_tdiv _ _
      have h5 : n.natAbs / b.natAbs ≤ n.natAbs / 2 := Nat.div_le_div_left (by omega) (by decide)
      exact wrap_i64 (by omega) (by omega)
def sumA (x : Int) (n : Int) : AV := .agg [.int .u64 (hi64 x), .int .u64 (lo64 x), .int .i64 n]






def doV (op : Int) (a b : Val) : Val × Int :=
  if op < 7 ∨ 9 < op ∨ a.k < 0 ∨ 1 < a.k ∨ b.k < 0 ∨ 1 < b.k then (⟨0, 0, ⟨#[]⟩⟩, 3)
  else if a.k = 0 ∨ b.k = 0 then (⟨0, 0, ⟨#[]⟩⟩, 0)
  else
    let x := if op = 7 then a.i + b.i else if op = 8 then a.i - b.i else a.i * b.i
    if isI x then (⟨1, x, ⟨#[]⟩⟩, 0) else (⟨0, 0, ⟨#[]⟩⟩, 5)



end Go.Proofs.Ytcjfjoilgnlemaa.PL
