/- What the functions of numbers tell. -/
import Derived.Test.YtaahlhhpmooliaaDoorFVal
import Derived.Laws.Externs
namespace Go.Proofs.YtaahlhhpmooliaaDoor.PL
open Go.Proofs
set_option linter.unusedVariables false
set_option linter.unusedSimpArgs false
def hi64 (x : Int) : Int := x / 18446744073709551616 % 18446744073709551616
def lo64 (x : Int) : Int := x % 18446744073709551616
/-- a number of 128 bits -/
def wide (x : Int) : AV := .agg [.int .u64 (hi64 x), .int .u64 (lo64 x)]
def isI (n : Int) : Prop := -9223372036854775808 ≤ n ∧ n < 9223372036854775808
instance (n : Int) : Decidable (isI n) := by unfold isI; infer_instance
theorem wrapU (n : Int) : IntKind.wrap .u64 n = n % 18446744073709551616 := by unfold IntKind.wrap; simp [IntKind.signed, IntKind.bits]
theorem wrapI (n : Int) : IntKind.wrap .i64 n = (n + 9223372036854775808) % 18446744073709551616 - 9223372036854775808 := by
  unfold IntKind.wrap; simp [IntKind.signed, IntKind.bits]; omega
theorem T_add64 (x y c : Nat) (hc : c = 0 ∨ c = 1) : T Tryd.prog 94 [.int .u64 x, .int .u64 y, .int .u64 c] (.tup [.int .u64 ((x + y + c) % 18446744073709551616 : Nat), .int .u64 ((x + y + c) / 18446744073709551616 : Nat)]) := by
  refine T.extern fun Γ vs hv => ?_
  cases hv with
  | cons v1 hv => cases hv with
  | cons v2 hv => cases hv with
  | cons v3 hv =>
  cases hv; cases v1; cases v2; cases v3
  have h : (Extern.find Tryd.f94).isSome = true := by kernel_rfl
  have he : Extern.find Tryd.f94 = some ((Extern.find Tryd.f94).getD (fun _ => pure undef)) := by
    obtain ⟨e, he⟩ := Option.isSome_iff_exists.1 h
    rw [he]; rfl
  refine ⟨.tuple #[.int .u64 ((x + y + c) % 18446744073709551616 : Nat), .int .u64 ((x + y + c) / 18446744073709551616 : Nat)], fun w => ?_, fun Δ => .tup (.cons (.int _ _) (.cons (.int _ _) .nil))⟩
  rw [run_callFunc_extern (P := Tryd.prog) Tryd.func94 (by kernel_rfl) (by kernel_rfl) (by kernel_rfl) he]
  have hr : (((Extern.find Tryd.f94).getD (fun _ => pure undef)) #[.int .u64 (x : Nat), .int .u64 (y : Nat), .int .u64 (c : Nat)]).run Tryd.prog w = .ok (.tuple #[.int .u64 ((x + y + c) % 18446744073709551616 : Nat), .int .u64 ((x + y + c) / 18446744073709551616 : Nat)]) w := by
    rcases hc with rfl | rfl <;> kernel_rfl
  show Result.andThen (((Extern.find Tryd.f94).getD (fun _ => pure undef)) #[.int .u64 (x : Nat), .int .u64 (y : Nat), .int .u64 (c : Nat)] |>.run Tryd.prog w) _ = _
  rw [hr]; rfl

theorem T_of (n : Int) (h : isI n) : T Tryd.prog 78 [.int .i64 n] (wide n) := by
  refine T.intro (TS.body mix Tryd.func78 (by kernel_rfl) rfl (by kernel_rfl) (by simp) ?_)
  unfold isI at h
  simp [wrapU, hi64, lo64, wide]
  have : (n.fdiv 9223372036854775808) = n / 9223372036854775808 := Int.fdiv_eq_ediv_of_nonneg _ (by decide)
  rw [this]
  omega
theorem hi_nat (x : Int) : ∃ k : Nat, hi64 x = (k : Int) ∧ k < 18446744073709551616 := ⟨(hi64 x).toNat, by unfold hi64; omega, by unfold hi64; omega⟩
theorem lo_nat (x : Int) : ∃ k : Nat, lo64 x = (k : Int) ∧ k < 18446744073709551616 := ⟨(lo64 x).toNat, by unfold lo64; omega, by unfold lo64; omega⟩
theorem T_plus (x y : Int) : T Tryd.prog 86 [wide x, wide y] (wide (x + y)) := by
  refine T.intro (TS.body mix Tryd.func86 (by kernel_rfl) rfl (by kernel_rfl) (by simp) ?_)
  obtain ⟨a, ea, ha⟩ := hi_nat x
  obtain ⟨b, eb, hb⟩ := lo_nat x
  obtain ⟨c, ec, hc⟩ := hi_nat y
  obtain ⟨d, ed, hd⟩ := lo_nat y
  simp only [wide, ea, eb, ec, ed]
  have h0 : (b + d + 0) / 18446744073709551616 = 0 ∨ (b + d + 0) / 18446744073709551616 = 1 := by omega
  simp
  refine TS.call' (T_add64 b d 0 (.inl rfl)) (by simp) ?_
  simp
  refine TS.call' (T_add64 a c ((b + d + 0) / 18446744073709551616) h0) (by simp) ?_
  simp
  unfold hi64 lo64 at *
  omega

@[simp] theorem eqt_wide {a b c d : Int} : EqT Tryd.prog 100 [.int .u64 a, .int .u64 b] [.int .u64 c, .int .u64 d] = True :=
  eq_true (EqT.pair (e := 75) (by kernel_rfl) (by kernel_rfl) (by kernel_rfl) (by kernel_rfl) (by kernel_rfl))
def narN (x : Int) : Int := if isI x then x else 0
theorem T_narrow (x : Int) (h : -170141183460469231731687303715884105728 ≤ x) (h' : x < 170141183460469231731687303715884105728) : T Tryd.prog 87 [wide x] (.tup [.int .i64 (narN x), .bool (decide (isI x))]) := by
  refine T.intro (TS.body mix Tryd.func87 (by kernel_rfl) rfl (by kernel_rfl) (by simp) ?_)
  have hn : isI (IntKind.i64.wrap (lo64 x)) := by rw [wrapI]; unfold isI; omega
  have hw : IntKind.i64.wrap (lo64 x) = (lo64 x + 9223372036854775808) % 18446744073709551616 - 9223372036854775808 := wrapI _
  generalize hg : IntKind.i64.wrap (lo64 x) = n at *
  have ew : wide x = .agg [.int .u64 (hi64 x), .int .u64 (lo64 x)] := rfl
  have ew2 : wide n = .agg [.int .u64 (hi64 n), .int .u64 (lo64 n)] := rfl
  have key : (hi64 n = hi64 x ∧ lo64 n = lo64 x) ↔ isI x := by
    unfold isI at *
    unfold hi64 lo64 at *
    constructor
    · rintro ⟨h1, h2⟩; omega
    · intro h3; omega
  have kn : isI x → n = x := by
    intro h3; unfold isI at h3; unfold lo64 at hw; omega
  rw [ew]
  simp [hg]
  (first | refine TS.call' (T_of n hn) (by simp [ew2]) ?_ | refine TDK.call' (T_of n hn) (by simp [ew2]) ?_ | refine GTK.call (fun _ => ⟨T_of n hn, by simp [ew2]⟩) ?_ | refine TS.call (T_of n hn) (by simp [ew2]) ?_ | refine TDK.call (T_of n hn) (by simp [ew2]) ?_); simp [ew2]
  refine condK_of (fun h1 => ?_) (fun h1 => ?_)
  · have : ¬ isI x := by
      intro h3
      have := key.2 h3
      simp [this] at h1
    simp [narN, this]
  · have : isI x := by
      refine key.1 ?_
      simpa using h1
    simp [narN, this, kn this]


theorem and32 (x : Nat) (h : x < 18446744073709551616) : IntKind.u64.wrap (((((x : Nat) : Int) % 18446744073709551616).toNat &&& 4294967295 : Nat) : Int) = ((x % 4294967296 : Nat) : Int) := by
  have e : ((x : Int) % 18446744073709551616).toNat = x := by omega
  have e2 : x &&& 4294967295 = x % 4294967296 := Nat.and_two_pow_sub_one_eq_mod x 32
  rw [e, e2, wrapU]
  omega
theorem shr32 (x : Nat) : ((x : Nat) : Int).fdiv 4294967296 = ((x / 4294967296 : Nat) : Int) := by
  rw [Int.fdiv_eq_ediv_of_nonneg _ (by decide)]; omega
theorem mulU (a b : Nat) (h : a * b < 18446744073709551616) : IntKind.u64.wrap ((a : Int) * (b : Int)) = ((a * b : Nat) : Int) := by
  rw [wrapU, ← Int.natCast_mul]; omega
theorem addU (a b : Nat) (h : a + b < 18446744073709551616) : IntKind.u64.wrap ((a : Int) + (b : Int)) = ((a + b : Nat) : Int) := by
  rw [wrapU, ← Int.natCast_add]; omega
theorem small_mul {a b : Nat} (ha : a < 4294967296) (hb : b < 4294967296) : a * b ≤ 18446744065119617025 := Nat.mul_le_mul (Nat.le_of_lt_succ ha) (Nat.le_of_lt_succ hb)
theorem u64_of {a : Int} (h : isI a) : ∃ A : Nat, IntKind.u64.wrap a = (A : Int) ∧ A < 18446744073709551616 ∧ (A : Int) = if a < 0 then a + 18446744073709551616 else a := by
  unfold isI at h
  exact ⟨(a % 18446744073709551616).toNat, by rw [wrapU]; omega, by omega, by split <;> omega⟩
theorem isI_mul {a b : Int} (ha : isI a) (hb : isI b) : -170141183460469231731687303715884105728 ≤ a * b ∧ a * b < 170141183460469231731687303715884105728 := by
  unfold isI at ha hb
  have h : (a * b).natAbs ≤ 85070591730234615865843651857942052864 := by
    rw [Int.natAbs_mul]
    exact Nat.mul_le_mul (show a.natAbs ≤ 9223372036854775808 by omega) (show b.natAbs ≤ 9223372036854775808 by omega)
  omega


theorem mul_back {a b : Int} (ha : isI a) (hb : isI b) (h0 : a ≠ 0) (h1 : b ≠ 0) (h2 : ¬ (a = -1 ∧ b = -9223372036854775808)) (h3 : ¬ (b = -1 ∧ a = -9223372036854775808)) :
    isI (a * b) ↔ (IntKind.i64.wrap (a * b)).tdiv b = a ∧ (IntKind.i64.wrap (a * b)).tmod b = 0 := by
  constructor
  · intro h
    have h' := h
    unfold isI at h'
    rw [wrap_i64 h'.1 h'.2]
    exact ⟨Int.mul_tdiv_cancel _ h1, Int.mul_tmod_left _ _⟩
  · rintro ⟨g1, g2⟩
    have hw := wrapI (a * b)
    generalize IntKind.i64.wrap (a * b) = n at *
    have hn : n = a * b := by
      have := Int.tdiv_mul_add_tmod n b
      rw [g1, g2] at this
      omega
    unfold isI
    omega
theorem quo_ok {a b : Int} (ha : isI a) (hb : isI b) (h1 : b ≠ 0) (h3 : ¬ (b = -1 ∧ a = -9223372036854775808)) : IntKind.i64.wrap ((IntKind.i64.wrap (a * b)).tdiv b) = (IntKind.i64.wrap (a * b)).tdiv b := by
  have hw := wrapI (a * b)
  have hw2 : b = -1 → a * b = - a := by rintro rfl; omega
  generalize IntKind.i64.wrap (a * b) = n at *
  unfold isI at *
  by_cases e1 : b = 1
  · subst e1; rw [Int.tdiv_one]; exact wrap_i64 (by omega) (by omega)
  · by_cases e2 : b = -1
    · have := hw2 e2
      subst e2
      rw [Int.tdiv_neg, Int.tdiv_one]
      exact wrap_i64 (by omega) (by omega)
    · have h4 : (n.tdiv b).natAbs = n.natAbs / b.natAbs := Int.natAbs_tdiv _ _
      have h5 : n.natAbs / b.natAbs ≤ n.natAbs / 2 := Nat.div_le_div_left (by omega) (by decide)
      exact wrap_i64 (by omega) (by omega)
def sumA (x : Int) (n : Int) : AV := .agg [.int .u64 (hi64 x), .int .u64 (lo64 x), .int .i64 n]
theorem T_join (x y n m : Int) : T Tryd.prog 79 [sumA x n, sumA y m] (sumA (x + y) (IntKind.i64.wrap (n + m))) := by
  refine T.intro (TS.body mix Tryd.func79 (by kernel_rfl) rfl (by kernel_rfl) (by simp) ?_)
  simp [sumA]
  refine TS.call' (T_plus x y) (by simp [wide]) ?_
  simp [wide, sumA]
theorem T_aplus (x k n : Int) (hn : isI n) : T Tryd.prog 69 [sumA x k, .int .i64 n] (sumA (x + n) (IntKind.i64.wrap (k + 1))) := by
  refine T.intro (TS.body mix Tryd.func69 (by kernel_rfl) rfl (by kernel_rfl) (by simp) ?_)
  simp [sumA]
  refine TS.call' (T_of n hn) (by simp [wide]) ?_
  simp [wide]
  refine TS.call' (T_join x n k 1) (by simp [sumA]) ?_
  simp [sumA]
theorem T_total (x k : Int) (h : -170141183460469231731687303715884105728 ≤ x) (h' : x < 170141183460469231731687303715884105728) : T Tryd.prog 80 [sumA x k] (.tup [.int .i64 (narN x), .int .i64 (if isI x then 0 else 5)]) := by
  refine T.intro (TS.body mix Tryd.func80 (by kernel_rfl) rfl (by kernel_rfl) (by simp) ?_)
  simp [sumA]
  refine TS.call' (T_narrow x h h') (by simp [wide]) ?_
  by_cases hx : isI x <;> simp [hx, narN]




def doV (op : Int) (a b : Val) : Val × Int :=
  if op < 7 ∨ 9 < op ∨ a.k < 0 ∨ 1 < a.k ∨ b.k < 0 ∨ 1 < b.k then (⟨0, 0, ⟨#[]⟩⟩, 3)
  else if a.k = 0 ∨ b.k = 0 then (⟨0, 0, ⟨#[]⟩⟩, 0)
  else
    let x := if op = 7 then a.i + b.i else if op = 8 then a.i - b.i else a.i * b.i
    if isI x then (⟨1, x, ⟨#[]⟩⟩, 0) else (⟨0, 0, ⟨#[]⟩⟩, 5)



end Go.Proofs.YtaahlhhpmooliaaDoor.PL
