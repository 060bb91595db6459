/- What the functions of numbers tell. -/
import Derived.Test.YtgmhmdmfnmlhmabFVal
import Derived.Laws.Externs
namespace Go.Proofs.Ytgmhmdmfnmlhmab.PL
open Go.Proofs
set_option linter.unusedVariables false
set_option linter.unusedSimpArgs false
def hi64 (x : Int) : Int := x / 18446744073709551616 % 18446744073709551616
def lo64 (x : Int) : Int := x % 18446744073709551616
/-- a number of 128 bits -/
def wide (x : Int) : AV := .agg [.int .u64 (hi64 x), .int .u64 (lo64 x)]
def isI (n : Int) : Prop := -9223372036854775808 ≤ n ∧ n < 9223372036854775808
instance (n : Int) : Decidable (isI n) := by unfold isI; infer_instance
theorem wrapU (n : Int) : IntKind.wrap .u64 n = n % 18446744073709551616 := by unfold IntKind.wrap; simp [IntKind.signed, IntKind.bits]
theorem wrapI (n : Int) : IntKind.wrap .i64 n = (n + 9223372036854775808) % 18446744073709551616 - 9223372036854775808 := by
  unfold IntKind.wrap; simp [IntKind.signed, IntKind.bits]; omega
theorem T_add64 (x y c : Nat) (hc : c = 0 ∨ c = 1) : T Try.prog 129 [.int .u64 x, .int .u64 y, .int .u64 c] (.tup [.int .u64 ((x + y + c) % 18446744073709551616 : Nat), .int .u64 ((x + y + c) / 18446744073709551616 : Nat)]) := by
  refine T.extern fun Γ vs hv => ?_
  cases hv with
  | cons v1 hv => cases hv with
  | cons v2 hv => cases hv with
  | cons v3 hv =>
  cases hv; cases v1; cases v2; cases v3
  have h : (Extern.find Try.f129).isSome = true := by kernel_rfl
  have he : Extern.find Try.f129 = some ((Extern.find Try.f129).getD (fun _ => pure undef)) := by
    obtain ⟨e, he⟩ := Option.isSome_iff_exists.1 h
    rw [he]; rfl
  refine ⟨.tuple #[.int .u64 ((x + y + c) % 18446744073709551616 : Nat), .int .u64 ((x + y + c) / 18446744073709551616 : Nat)], fun w => ?_, fun Δ => .tup (.cons (.int _ _) (.cons (.int _ _) .nil))⟩
  rw [run_callFunc_extern (P := Try.prog) Try.func129 (by kernel_rfl) (by kernel_rfl) (by kernel_rfl) he]
  have hr : (((Extern.find Try.f129).getD (fun _ => pure undef)) #[.int .u64 (x : Nat), .int .u64 (y : Nat), .int .u64 (c : Nat)]).run Try.prog w = .ok (.tuple #[.int .u64 ((x + y + c) % 18446744073709551616 : Nat), .int .u64 ((x + y + c) / 18446744073709551616 : Nat)]) w := by
    rcases hc with rfl | rfl <;> kernel_rfl
  show Result.andThen (((Extern.find Try.f129).getD (fun _ => pure undef)) #[.int .u64 (x : Nat), .int .u64 (y : Nat), .int .u64 (c : Nat)] |>.run Try.prog w) _ = _
  rw [hr]; rfl
theorem T_of (n : Int) (h : isI n) : T Try.prog 121 [.int .i64 n] (wide n) := by
  refine T.intro (TS.body mix Try.func121 (by kernel_rfl) rfl (by kernel_rfl) (by simp) ?_)
  unfold isI at h
  simp [wrapU, hi64, lo64, wide]
  have : (n.fdiv 9223372036854775808) = n / 9223372036854775808 := Int.fdiv_eq_ediv_of_nonneg _ (by decide)
  rw [this]
  omega
theorem hi_nat (x : Int) : ∃ k : Nat, hi64 x = (k : Int) ∧ k < 18446744073709551616 := ⟨(hi64 x).toNat, by unfold hi64; omega, by unfold hi64; omega⟩
theorem lo_nat (x : Int) : ∃ k : Nat, lo64 x = (k : Int) ∧ k < 18446744073709551616 := ⟨(lo64 x).toNat, by unfold lo64; omega, by unfold lo64; omega⟩
theorem T_plus (x y : Int) : T Try.prog 123 [wide x, wide y] (wide (x + y)) := by
  refine T.intro (TS.body mix Try.func123 (by kernel_rfl) rfl (by kernel_rfl) (by simp) ?_)
  obtain ⟨a, ea, ha⟩ := hi_nat x
  obtain ⟨b, eb, hb⟩ := lo_nat x
  obtain ⟨c, ec, hc⟩ := hi_nat y
  obtain ⟨d, ed, hd⟩ := lo_nat y
  simp only [wide, ea, eb, ec, ed]
  have h0 : (b + d + 0) / 18446744073709551616 = 0 ∨ (b + d + 0) / 18446744073709551616 = 1 := by omega
  simp
  refine TS.call' (T_add64 b d 0 (.inl rfl)) (by simp) ?_
  simp
  refine TS.call' (T_add64 a c ((b + d + 0) / 18446744073709551616) h0) (by simp) ?_
  simp
  unfold hi64 lo64 at *
  omega
@[simp] theorem eqt_wide {a b c d : Int} : EqT Try.prog 153 [.int .u64 a, .int .u64 b] [.int .u64 c, .int .u64 d] = True :=
  eq_true (EqT.pair (e := 103) (by kernel_rfl) (by kernel_rfl) (by kernel_rfl) (by kernel_rfl) (by kernel_rfl))
def narN (x : Int) : Int := if isI x then x else 0
theorem T_narrow (x : Int) (h : -170141183460469231731687303715884105728 ≤ x) (h' : x < 170141183460469231731687303715884105728) : T Try.prog 128 [wide x] (.tup [.int .i64 (narN x), .bool (decide (isI x))]) := by
  refine T.intro (TS.body mix Try.func128 (by kernel_rfl) rfl (by kernel_rfl) (by simp) ?_)
  have hn : isI (IntKind.i64.wrap (lo64 x)) := by rw [wrapI]; unfold isI; omega
  have hw : IntKind.i64.wrap (lo64 x) = (lo64 x + 9223372036854775808) % 18446744073709551616 - 9223372036854775808 := wrapI _
  generalize hg : IntKind.i64.wrap (lo64 x) = n at *
  have ew : wide x = .agg [.int .u64 (hi64 x), .int .u64 (lo64 x)] := rfl
  have ew2 : wide n = .agg [.int .u64 (hi64 n), .int .u64 (lo64 n)] := rfl
  have key : (hi64 n = hi64 x ∧ lo64 n = lo64 x) ↔ isI x := by
    unfold isI at *
    unfold hi64 lo64 at *
    constructor
    · rintro ⟨h1, h2⟩; omega
    · intro h3; omega
  have kn : isI x → n = x := by
    intro h3; unfold isI at h3; unfold lo64 at hw; omega
  rw [ew]
  simp [hg]
  (first | refine TS.call' (T_of n hn) (by simp [ew2]) ?_ | refine TDK.call' (T_of n hn) (by simp [ew2]) ?_ | refine GTK.call (fun _ => ⟨T_of n hn, by simp [ew2]⟩) ?_ | refine TS.call (T_of n hn) (by simp [ew2]) ?_ | refine TDK.call (T_of n hn) (by simp [ew2]) ?_); simp [ew2]
  refine condK_of (fun h1 => ?_) (fun h1 => ?_)
  · have : ¬ isI x := by
      intro h3
      have := key.2 h3
      simp [this] at h1
    simp [narN, this]
  · have : isI x := by
      refine key.1 ?_
      simpa using h1
    simp [narN, this, kn this]
def sumA (x : Int) (n : Int) : AV := .agg [.int .u64 (hi64 x), .int .u64 (lo64 x), .int .i64 n]
theorem T_join (x y n m : Int) : T Try.prog 107 [sumA x n, sumA y m] (sumA (x + y) (IntKind.i64.wrap (n + m))) := by
  refine T.intro (TS.body mix Try.func107 (by kernel_rfl) rfl (by kernel_rfl) (by simp) ?_)
  simp [sumA]
  refine TS.call' (T_plus x y) (by simp [wide]) ?_
  simp [wide, sumA]
theorem T_aplus (x k n : Int) (hn : isI n) : T Try.prog 103 [sumA x k, .int .i64 n] (sumA (x + n) (IntKind.i64.wrap (k + 1))) := by
  refine T.intro (TS.body mix Try.func103 (by kernel_rfl) rfl (by kernel_rfl) (by simp) ?_)
  simp [sumA]
  refine TS.call' (T_of n hn) (by simp [wide]) ?_
  simp [wide]
  refine TS.call' (T_join x n k 1) (by simp [sumA]) ?_
  simp [sumA]
theorem T_total (x k : Int) (h : -170141183460469231731687303715884105728 ≤ x) (h' : x < 170141183460469231731687303715884105728) : T Try.prog 122 [sumA x k] (.tup [.int .i64 (narN x), .int .i64 (if isI x then 0 else 5)]) := by
  refine T.intro (TS.body mix Try.func122 (by kernel_rfl) rfl (by kernel_rfl) (by simp) ?_)
  simp [sumA]
  refine TS.call' (T_narrow x h h') (by simp [wide]) ?_
  by_cases hx : isI x <;> simp [hx, narN]
end Go.Proofs.Ytgmhmdmfnmlhmab.PL
