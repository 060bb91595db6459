/- What the functions of numbers tell. -/
import Derived.Test.YtgmhmdmfnmlhmacFVal
import Derived.Laws.Externs
namespace Go.Proofs.Ytgmhmdmfnmlhmac.PL
open Go.Proofs
set_option linter.unusedVariables false
set_option linter.unusedSimpArgs false
def hi64 (x : Int) : Int := x / 18446744073709551616 % 18446744073709551616
def lo64 (x : Int) : Int := x % 18446744073709551616
/-- a number of 128 bits -/
def wide (x : Int) : AV := .agg [.int .u64 (hi64 x), .int .u64 (lo64 x)]
def isI (n : Int) : Prop := -9223372036854775808 ≤ n ∧ n < 9223372036854775808
instance (n : Int) : Decidable (isI n) := by unfold isI; infer_instance
theorem wrapU (n : Int) : IntKind.wrap .u64 n = n % 18446744073709551616 := by unfold IntKind.wrap; simp [IntKind.signed, IntKind.bits]
theorem wrapI (n : Int) : IntKind.wrap .i64 n = (n + 9223372036854775808) % 18446744073709551616 - 9223372036854775808 := by
  unfold IntKind.wrap; simp [IntKind.signed, IntKind.bits]; omega
theorem T_add64 (x y c : Nat) (hc : c = 0 ∨ c = 1) : T Try.prog 167 [.int .u64 x, .int .u64 y, .int .u64 c] (.tup [.int .u64 ((x + y + c) % 18446744073709551616 : Nat), .int .u64 ((x + y + c) / 18446744073709551616 : Nat)]) := by
  refine T.extern fun Γ vs hv => ?_
  cases hv with
  | cons v1 hv => cases hv with
  | cons v2 hv => cases hv with
  | cons v3 hv =>
  cases hv; cases v1; cases v2; cases v3
  have h : (Extern.find Try.f167).isSome = true := by kernel_rfl
  have he : Extern.find Try.f167 = some ((Extern.find Try.f167).getD (fun _ => pure undef)) := by
    obtain ⟨e, he⟩ := Option.isSome_iff_exists.1 h
    rw [he]; rfl
  refine ⟨.tuple #[.int .u64 ((x + y + c) % 18446744073709551616 : Nat), .int .u64 ((x + y + c) / 18446744073709551616 : Nat)], fun w => ?_, fun Δ => .tup (.cons (.int _ _) (.cons (.int _ _) .nil))⟩
  rw [run_callFunc_extern (P := Try.prog) Try.func167 (by kernel_rfl) (by kernel_rfl) (by kernel_rfl) he]
  have hr : (((Extern.find Try.f167).getD (fun _ => pure undef)) #[.int .u64 (x : Nat), .int .u64 (y : Nat), .int .u64 (c : Nat)]).run Try.prog w = .ok (.tuple #[.int .u64 ((x + y + c) % 18446744073709551616 : Nat), .int .u64 ((x + y + c) / 18446744073709551616 : Nat)]) w := by
    rcases hc with rfl | rfl <;> kernel_rfl
  show Result.andThen (((Extern.find Try.f167).getD (fun _ => pure undef)) #[.int .u64 (x : Nat), .int .u64 (y : Nat), .int .u64 (c : Nat)] |>.run Try.prog w) _ = _
  rw [hr]; rfl
theorem T_sub64 (x y c : Nat) (hc : c = 0 ∨ c = 1) : T Try.prog 168 [.int .u64 x, .int .u64 y, .int .u64 c] (.tup [.int .u64 ((x + 18446744073709551616 - y - c) % 18446744073709551616 : Nat), .int .u64 (if x < y + c then 1 else 0 : Nat)]) := by
  refine T.extern fun Γ vs hv => ?_
  cases hv with
  | cons v1 hv => cases hv with
  | cons v2 hv => cases hv with
  | cons v3 hv =>
  cases hv; cases v1; cases v2; cases v3
  have h : (Extern.find Try.f168).isSome = true := by kernel_rfl
  have he : Extern.find Try.f168 = some ((Extern.find Try.f168).getD (fun _ => pure undef)) := by
    obtain ⟨e, he⟩ := Option.isSome_iff_exists.1 h
    rw [he]; rfl
  refine ⟨.tuple #[.int .u64 ((x + 18446744073709551616 - y - c) % 18446744073709551616 : Nat), .int .u64 (if x < y + c then 1 else 0 : Nat)], fun w => ?_, fun Δ => .tup (.cons (.int _ _) (.cons (.int _ _) .nil))⟩
  rw [run_callFunc_extern (P := Try.prog) Try.func168 (by kernel_rfl) (by kernel_rfl) (by kernel_rfl) he]
  have hr : (((Extern.find Try.f168).getD (fun _ => pure undef)) #[.int .u64 (x : Nat), .int .u64 (y : Nat), .int .u64 (c : Nat)]).run Try.prog w = .ok (.tuple #[.int .u64 ((x + 18446744073709551616 - y - c) % 18446744073709551616 : Nat), .int .u64 (if x < y + c then 1 else 0 : Nat)]) w := by
    rcases hc with rfl | rfl <;> kernel_rfl
  show Result.andThen (((Extern.find Try.f168).getD (fun _ => pure undef)) #[.int .u64 (x : Nat), .int .u64 (y : Nat), .int .u64 (c : Nat)] |>.run Try.prog w) _ = _
  rw [hr]; rfl
theorem T_of (n : Int) (h : isI n) : T Try.prog 151 [.int .i64 n] (wide n) := by
  refine T.intro (TS.body mix Try.func151 (by kernel_rfl) rfl (by kernel_rfl) (by simp) ?_)
  unfold isI at h
  simp [wrapU, hi64, lo64, wide]
  have : (n.fdiv 9223372036854775808) = n / 9223372036854775808 := Int.fdiv_eq_ediv_of_nonneg _ (by decide)
  rw [this]
  omega
theorem hi_nat (x : Int) : ∃ k : Nat, hi64 x = (k : Int) ∧ k < 18446744073709551616 := ⟨(hi64 x).toNat, by unfold hi64; omega, by unfold hi64; omega⟩
theorem lo_nat (x : Int) : ∃ k : Nat, lo64 x = (k : Int) ∧ k < 18446744073709551616 := ⟨(lo64 x).toNat, by unfold lo64; omega, by unfold lo64; omega⟩
theorem T_plus (x y : Int) : T Try.prog 152 [wide x, wide y] (wide (x + y)) := by
  refine T.intro (TS.body mix Try.func152 (by kernel_rfl) rfl (by kernel_rfl) (by simp) ?_)
  obtain ⟨a, ea, ha⟩ := hi_nat x
  obtain ⟨b, eb, hb⟩ := lo_nat x
  obtain ⟨c, ec, hc⟩ := hi_nat y
  obtain ⟨d, ed, hd⟩ := lo_nat y
  simp only [wide, ea, eb, ec, ed]
  have h0 : (b + d + 0) / 18446744073709551616 = 0 ∨ (b + d + 0) / 18446744073709551616 = 1 := by omega
  simp
  refine TS.call' (T_add64 b d 0 (.inl rfl)) (by simp) ?_
  simp
  refine TS.call' (T_add64 a c ((b + d + 0) / 18446744073709551616) h0) (by simp) ?_
  simp
  unfold hi64 lo64 at *
  omega
theorem T_minus (x y : Int) : T Try.prog 154 [wide x, wide y] (wide (x - y)) := by
  refine T.intro (TS.body mix Try.func154 (by kernel_rfl) rfl (by kernel_rfl) (by simp) ?_)
  obtain ⟨a, ea, ha⟩ := hi_nat x
  obtain ⟨b, eb, hb⟩ := lo_nat x
  obtain ⟨c, ec, hc⟩ := hi_nat y
  obtain ⟨d, ed, hd⟩ := lo_nat y
  simp only [wide, ea, eb, ec, ed]
  have h0 : (if b < d + 0 then 1 else 0 : Nat) = 0 ∨ (if b < d + 0 then 1 else 0 : Nat) = 1 := by split <;> simp
  simp
  refine TS.call' (T_sub64 b d 0 (.inl rfl)) (by simp) ?_
  simp
  refine TS.call' (T_sub64 a c (if b < d + 0 then 1 else 0) h0) (by simp) ?_
  simp
  unfold hi64 lo64 at *
  split <;> omega
@[simp] theorem eqt_wide {a b c d : Int} : EqT Try.prog 146 [.int .u64 a, .int .u64 b] [.int .u64 c, .int .u64 d] = True :=
  eq_true (EqT.pair (e := 144) (by kernel_rfl) (by kernel_rfl) (by kernel_rfl) (by kernel_rfl) (by kernel_rfl))
def narN (x : Int) : Int := if isI x then x else 0
theorem T_narrow (x : Int) (h : -170141183460469231731687303715884105728 ≤ x) (h' : x < 170141183460469231731687303715884105728) : T Try.prog 153 [wide x] (.tup [.int .i64 (narN x), .bool (decide (isI x))]) := by
  refine T.intro (TS.body mix Try.func153 (by kernel_rfl) rfl (by kernel_rfl) (by simp) ?_)
  have hn : isI (IntKind.i64.wrap (lo64 x)) := by rw [wrapI]; unfold isI; omega
  have hw : IntKind.i64.wrap (lo64 x) = (lo64 x + 9223372036854775808) % 18446744073709551616 - 9223372036854775808 := wrapI _
  generalize hg : IntKind.i64.wrap (lo64 x) = n at *
  have ew : wide x = .agg [.int .u64 (hi64 x), .int .u64 (lo64 x)] := rfl
  have ew2 : wide n = .agg [.int .u64 (hi64 n), .int .u64 (lo64 n)] := rfl
  have key : (hi64 n = hi64 x ∧ lo64 n = lo64 x) ↔ isI x := by
    unfold isI at *
    unfold hi64 lo64 at *
    constructor
    · rintro ⟨h1, h2⟩; omega
    · intro h3; omega
  have kn : isI x → n = x := by
    intro h3; unfold isI at h3; unfold lo64 at hw; omega
  rw [ew]
  simp [hg]
  (first | refine TS.call' (T_of n hn) (by simp [ew2]) ?_ | refine TDK.call' (T_of n hn) (by simp [ew2]) ?_ | refine GTK.call (fun _ => ⟨T_of n hn, by simp [ew2]⟩) ?_ | refine TS.call (T_of n hn) (by simp [ew2]) ?_ | refine TDK.call (T_of n hn) (by simp [ew2]) ?_); simp [ew2]
  refine condK_of (fun h1 => ?_) (fun h1 => ?_)
  · have : ¬ isI x := by
      intro h3
      have := key.2 h3
      simp [this] at h1
    simp [narN, this]
  · have : isI x := by
      refine key.1 ?_
      simpa using h1
    simp [narN, this, kn this]
theorem T_aadd (a b : Int) (ha : isI a) (hb : isI b) : T Try.prog 128 [.int .i64 a, .int .i64 b] (.tup [.int .i64 (narN (a + b)), .bool (decide (isI (a + b)))]) := by
  refine T.intro (TS.body mix Try.func128 (by kernel_rfl) rfl (by kernel_rfl) (by simp) ?_)
  have h1 := ha
  have h2 := hb
  unfold isI at h1 h2
  simp
  refine TS.call' (T_of a ha) (by simp) ?_
  simp
  refine TS.call' (T_of b hb) (by simp) ?_
  simp
  refine TS.call' (T_plus a b) (by simp [wide]) ?_
  simp
  refine TS.call' (T_narrow (a + b) (by omega) (by omega)) (by simp [wide]) ?_
  simp
theorem T_asub (a b : Int) (ha : isI a) (hb : isI b) : T Try.prog 129 [.int .i64 a, .int .i64 b] (.tup [.int .i64 (narN (a - b)), .bool (decide (isI (a - b)))]) := by
  refine T.intro (TS.body mix Try.func129 (by kernel_rfl) rfl (by kernel_rfl) (by simp) ?_)
  have h1 := ha
  have h2 := hb
  unfold isI at h1 h2
  simp
  refine TS.call' (T_of a ha) (by simp) ?_
  simp
  refine TS.call' (T_of b hb) (by simp) ?_
  simp
  refine TS.call' (T_minus a b) (by simp [wide]) ?_
  simp
  refine TS.call' (T_narrow (a - b) (by omega) (by omega)) (by simp [wide]) ?_
  simp
theorem and32 (x : Nat) (h : x < 18446744073709551616) : IntKind.u64.wrap (((((x : Nat) : Int) % 18446744073709551616).toNat &&& 4294967295 : Nat) : Int) = ((x % 4294967296 : Nat) : Int) := by
  have e : ((x : Int) % 18446744073709551616).toNat = x := by omega
  have e2 : x &&& 4294967295 = x % 4294967296 := Nat.and_two_pow_sub_one_eq_mod x 32
  rw [e, e2, wrapU]
  omega
theorem shr32 (x : Nat) : ((x : Nat) : Int).fdiv 4294967296 = ((x / 4294967296 : Nat) : Int) := by
  rw [Int.fdiv_eq_ediv_of_nonneg _ (by decide)]; omega
theorem mulU (a b : Nat) (h : a * b < 18446744073709551616) : IntKind.u64.wrap ((a : Int) * (b : Int)) = ((a * b : Nat) : Int) := by
  rw [wrapU, ← Int.natCast_mul]; omega
theorem addU (a b : Nat) (h : a + b < 18446744073709551616) : IntKind.u64.wrap ((a : Int) + (b : Int)) = ((a + b : Nat) : Int) := by
  rw [wrapU, ← Int.natCast_add]; omega
theorem small_mul {a b : Nat} (ha : a < 4294967296) (hb : b < 4294967296) : a * b ≤ 18446744065119617025 := Nat.mul_le_mul (Nat.le_of_lt_succ ha) (Nat.le_of_lt_succ hb)
theorem T_mul64 (x y : Nat) (hx : x < 18446744073709551616) (hy : y < 18446744073709551616) : T Try.prog 155 [.int .u64 x, .int .u64 y] (.tup [.int .u64 (x * y / 18446744073709551616 : Nat), .int .u64 (x * y % 18446744073709551616 : Nat)]) := by
  refine T.intro (TS.body mix Try.func155 (by kernel_rfl) rfl (by kernel_rfl) (by simp) ?_)
  have a0 := Nat.mod_lt x (show 4294967296 > 0 by decide)
  have a1 : x / 4294967296 < 4294967296 := by omega
  have b0 := Nat.mod_lt y (show 4294967296 > 0 by decide)
  have b1 : y / 4294967296 < 4294967296 := by omega
  have m00 := small_mul a0 b0
  have m10 := small_mul a1 b0
  have m01 := small_mul a0 b1
  have m11 := small_mul a1 b1
  have exy : x * y = (x / 4294967296) * (y / 4294967296) * 18446744073709551616 + (x / 4294967296) * (y % 4294967296) * 4294967296 + (x % 4294967296) * (y / 4294967296) * 4294967296 + (x % 4294967296) * (y % 4294967296) := by
    conv => lhs; rw [← Nat.div_add_mod x 4294967296, ← Nat.div_add_mod y 4294967296]
    generalize x / 4294967296 = p
    generalize x % 4294967296 = q
    generalize y / 4294967296 = r
    generalize y % 4294967296 = s
    rw [Nat.add_mul, Nat.mul_add, Nat.mul_add]
    have e1 : 4294967296 * p * (4294967296 * r) = p * r * 18446744073709551616 := by
      rw [Nat.mul_mul_mul_comm, Nat.mul_comm]
    have e2 : 4294967296 * p * s = p * s * 4294967296 := by rw [Nat.mul_assoc, Nat.mul_comm]
    have e3 : q * (4294967296 * r) = q * r * 4294967296 := by rw [Nat.mul_left_comm, Nat.mul_comm]
    rw [e1, e2, e3]
    omega
  simp
  simp only [and32 x hx, and32 y hy, shr32, mulU _ _ (show x % 4294967296 * (y % 4294967296) < 18446744073709551616 by omega), mulU _ _ (show x / 4294967296 * (y % 4294967296) < 18446744073709551616 by omega),
    mulU _ _ (show x % 4294967296 * (y / 4294967296) < 18446744073709551616 by omega), mulU _ _ (show x / 4294967296 * (y / 4294967296) < 18446744073709551616 by omega)]
  generalize hp : x / 4294967296 * (y / 4294967296) = p11 at *
  generalize hq : x / 4294967296 * (y % 4294967296) = p10 at *
  generalize hr : x % 4294967296 * (y / 4294967296) = p01 at *
  generalize hs : x % 4294967296 * (y % 4294967296) = p00 at *
  simp only [addU p10 (p00 / 4294967296) (by omega), shr32, and32 (p10 + p00 / 4294967296) (by omega), addU ((p10 + p00 / 4294967296) % 4294967296) p01 (by omega)]
  rw [addU p11 ((p10 + p00 / 4294967296) / 4294967296) (by omega), addU (p11 + (p10 + p00 / 4294967296) / 4294967296) (((p10 + p00 / 4294967296) % 4294967296 + p01) / 4294967296) (by omega), wrapU, ← Int.natCast_mul, exy]
  omega
theorem u64_of {a : Int} (h : isI a) : ∃ A : Nat, IntKind.u64.wrap a = (A : Int) ∧ A < 18446744073709551616 ∧ (A : Int) = if a < 0 then a + 18446744073709551616 else a := by
  unfold isI at h
  exact ⟨(a % 18446744073709551616).toNat, by rw [wrapU]; omega, by omega, by split <;> omega⟩
theorem isI_mul {a b : Int} (ha : isI a) (hb : isI b) : -170141183460469231731687303715884105728 ≤ a * b ∧ a * b < 170141183460469231731687303715884105728 := by
  unfold isI at ha hb
  have h : (a * b).natAbs ≤ 85070591730234615865843651857942052864 := by
    rw [Int.natAbs_mul]
    exact Nat.mul_le_mul (show a.natAbs ≤ 9223372036854775808 by omega) (show b.natAbs ≤ 9223372036854775808 by omega)
  omega
theorem T_amul (a b : Int) (ha : isI a) (hb : isI b) : T Try.prog 130 [.int .i64 a, .int .i64 b] (.tup [.int .i64 (narN (a * b)), .bool (decide (isI (a * b)))]) := by
  refine T.intro (TS.body mix Try.func130 (by kernel_rfl) rfl (by kernel_rfl) (by simp) ?_)
  obtain ⟨A, eA, hA, vA⟩ := u64_of ha
  obtain ⟨B, eB, hB, vB⟩ := u64_of hb
  have hab := isI_mul ha hb
  simp [eA, eB]
  have hm := T_mul64 A B hA hB
  have hlt : A * B ≤ 18446744073709551615 * 18446744073709551615 := Nat.mul_le_mul (by omega) (by omega)
  have hdm := Nat.div_add_mod (A * B) 18446744073709551616
  have hml := Nat.mod_lt (A * B) (show 18446744073709551616 > 0 by decide)
  have hprod : (a * b : Int) = (A * B : Nat) - (if a < 0 then 18446744073709551616 * (B : Int) else 0) - (if b < 0 then 18446744073709551616 * (A : Int) else 0) + (if a < 0 ∧ b < 0 then 340282366920938463463374607431768211456 else 0) := by
    rw [Int.natCast_mul, vA, vB]
    by_cases h1 : a < 0 <;> by_cases h2 : b < 0 <;> simp only [h1, h2, if_true, if_false, and_self, and_true, and_false, false_and, true_and, Int.add_mul, Int.mul_add] <;> omega
  generalize hq : A * B / 18446744073709551616 = q at *
  generalize hr : A * B % 18446744073709551616 = r at *
  generalize A * B = M at *
  generalize a * b = x at *
  refine TS.call' hm (by simp) ?_
  simp
  refine condK_of (fun h1 => ?_) (fun h1 => ?_) <;> simp at h1 <;> simp [eA, eB]
  all_goals (refine condK_of (fun h2 => ?_) (fun h2 => ?_) <;> simp at h2 <;> simp [eA, eB])
  all_goals
    refine TS.call (T_narrow x hab.1 hab.2) ?_ ?_
    · simp [wide, hi64, lo64, wrapU]
      (repeat' split at hprod) <;> omega
    · simp
theorem T_raadd (a b : Int) (ha : isI a) (hb : isI b) : T Try.prog 132 [.int .i64 a, .int .i64 b] (.tup [.int .i64 (narN (a + b)), .bool (decide (isI (a + b)))]) := by
  refine T.intro (TS.body mix Try.func132 (by kernel_rfl) rfl (by kernel_rfl) (by simp) ?_)
  have w1 : 0 < b → IntKind.i64.wrap (9223372036854775807 - b) = 9223372036854775807 - b := fun h => wrap_i64 (by unfold isI at hb; omega) (by omega)
  have w2 : b < 0 → IntKind.i64.wrap (-9223372036854775808 - b) = -9223372036854775808 - b := fun h => wrap_i64 (by omega) (by unfold isI at hb; omega)
  have hs : isI (a + b) ↔ ¬ ((0 < b ∧ IntKind.i64.wrap (9223372036854775807 - b) < a) ∨ (b < 0 ∧ a < IntKind.i64.wrap (-9223372036854775808 - b))) := by
    unfold isI at *
    constructor
    · rintro h (⟨h1, h2⟩ | ⟨h1, h2⟩)
      · rw [w1 h1] at h2; omega
      · rw [w2 h1] at h2; omega
    · intro h
      rcases Int.lt_trichotomy b 0 with h1 | h1 | h1
      · rw [w2 h1] at h; omega
      · omega
      · rw [w1 h1] at h; omega
  simp
  refine ⟨by grind, by grind, by grind, condK_of (fun h => ?_) (fun h => ?_)⟩
  · simp at h
    have : ¬ isI (a + b) := by rw [hs]; exact fun x => x h
    simp [narN, this]
  · simp at h
    have : isI (a + b) := by rw [hs]; grind
    have h2 := this
    unfold isI at h2
    simp [narN, this, wrap_i64 h2.1 h2.2]
theorem T_rasub (a b : Int) (ha : isI a) (hb : isI b) : T Try.prog 133 [.int .i64 a, .int .i64 b] (.tup [.int .i64 (narN (a - b)), .bool (decide (isI (a - b)))]) := by
  refine T.intro (TS.body mix Try.func133 (by kernel_rfl) rfl (by kernel_rfl) (by simp) ?_)
  have w1 : b < 0 → IntKind.i64.wrap (9223372036854775807 + b) = 9223372036854775807 + b := fun h => wrap_i64 (by unfold isI at hb; omega) (by omega)
  have w2 : 0 < b → IntKind.i64.wrap (-9223372036854775808 + b) = -9223372036854775808 + b := fun h => wrap_i64 (by omega) (by unfold isI at hb; omega)
  have hs : isI (a - b) ↔ ¬ ((b < 0 ∧ IntKind.i64.wrap (9223372036854775807 + b) < a) ∨ (0 < b ∧ a < IntKind.i64.wrap (-9223372036854775808 + b))) := by
    unfold isI at *
    constructor
    · rintro h (⟨h1, h2⟩ | ⟨h1, h2⟩)
      · rw [w1 h1] at h2; omega
      · rw [w2 h1] at h2; omega
    · intro h
      rcases Int.lt_trichotomy b 0 with h1 | h1 | h1
      · rw [w1 h1] at h; omega
      · omega
      · rw [w2 h1] at h; omega
  simp
  refine ⟨by grind, by grind, by grind, condK_of (fun h => ?_) (fun h => ?_)⟩
  · simp at h
    have : ¬ isI (a - b) := by rw [hs]; exact fun x => x h
    simp [narN, this]
  · simp at h
    have : isI (a - b) := by rw [hs]; grind
    have h2 := this
    unfold isI at h2
    simp [narN, this, wrap_i64 h2.1 h2.2]
theorem mul_back {a b : Int} (ha : isI a) (hb : isI b) (h0 : a ≠ 0) (h1 : b ≠ 0) (h2 : ¬ (a = -1 ∧ b = -9223372036854775808)) (h3 : ¬ (b = -1 ∧ a = -9223372036854775808)) :
    isI (a * b) ↔ (IntKind.i64.wrap (a * b)).tdiv b = a ∧ (IntKind.i64.wrap (a * b)).tmod b = 0 := by
  constructor
  · intro h
    have h' := h
    unfold isI at h'
    rw [wrap_i64 h'.1 h'.2]
    exact ⟨Int.mul_tdiv_cancel _ h1, Int.mul_tmod_left _ _⟩
  · rintro ⟨g1, g2⟩
    have hw := wrapI (a * b)
    generalize IntKind.i64.wrap (a * b) = n at *
    have hn : n = a * b := by
      have := Int.tdiv_mul_add_tmod n b
      rw [g1, g2] at this
      omega
    unfold isI
    omega
theorem quo_ok {a b : Int} (ha : isI a) (hb : isI b) (h1 : b ≠ 0) (h3 : ¬ (b = -1 ∧ a = -9223372036854775808)) : IntKind.i64.wrap ((IntKind.i64.wrap (a * b)).tdiv b) = (IntKind.i64.wrap (a * b)).tdiv b := by
  have hw := wrapI (a * b)
  have hw2 : b = -1 → a * b = - a := by rintro rfl; omega
  generalize IntKind.i64.wrap (a * b) = n at *
  unfold isI at *
  by_cases e1 : b = 1
  · subst e1; rw [Int.tdiv_one]; exact wrap_i64 (by omega) (by omega)
  · by_cases e2 : b = -1
    · have := hw2 e2
      subst e2
      rw [Int.tdiv_neg, Int.tdiv_one]
      exact wrap_i64 (by omega) (by omega)
    · have h4 : (n.tdiv b).natAbs = n.natAbs / b.natAbs := Int.natAbs_tdiv _ _
      have h5 : n.natAbs / b.natAbs ≤ n.natAbs / 2 := Nat.div_le_div_left (by omega) (by decide)
      exact wrap_i64 (by omega) (by omega)
theorem T_ramul (a b : Int) (ha : isI a) (hb : isI b) : T Try.prog 134 [.int .i64 a, .int .i64 b] (.tup [.int .i64 (narN (a * b)), .bool (decide (isI (a * b)))]) := by
  refine T.intro (TS.body mix Try.func134 (by kernel_rfl) rfl (by kernel_rfl) (by simp) ?_)
  simp
  refine condK_of (fun h => ?_) (fun h => ?_)
  · simp at h
    have e : a * b = 0 := by rcases h with h | h <;> simp [h]
    simp [e, narN, isI]
  simp at h
  simp
  repeat (refine ⟨by grind, ?_⟩)
  refine condK_of (fun h2 => ?_) (fun h2 => ?_)
  · simp at h2
    have : ¬ isI (a * b) := by
      unfold isI
      rcases h2 with ⟨h2, h3⟩ | ⟨h2, h3⟩ <;> rw [h2, h3] <;> decide
    simp [narN, this]
  simp at h2
  have hmb := mul_back ha hb h.1 h.2 (by grind) (by grind)
  have hq := quo_ok ha hb h.2 (by grind)
  simp [h.2, hq]
  refine condK_of (fun h3 => ?_) (fun h3 => ?_)
  · simp at h3
    have : ¬ isI (a * b) := by rw [hmb]; grind
    simp [narN, this]
  · simp at h3
    have : isI (a * b) := by rw [hmb]; exact h3
    have h4 := this
    unfold isI at h4
    simp [narN, this, wrap_i64 h4.1 h4.2]
def doV (op : Int) (a b : Val) : Val × Int :=
  if op < 7 ∨ 9 < op ∨ a.k < 0 ∨ 1 < a.k ∨ b.k < 0 ∨ 1 < b.k then (⟨0, 0, ⟨#[]⟩⟩, 3)
  else if a.k = 0 ∨ b.k = 0 then (⟨0, 0, ⟨#[]⟩⟩, 0)
  else
    let x := if op = 7 then a.i + b.i else if op = 8 then a.i - b.i else a.i * b.i
    if isI x then (⟨1, x, ⟨#[]⟩⟩, 0) else (⟨0, 0, ⟨#[]⟩⟩, 5)
theorem T_ado (op : Int) (a b : Val) (ha : isI a.i) (hb : isI b.i) : T Try.prog 81 [.int .i64 op, a.av, b.av] (.tup [(doV op a b).1.av, .int .i64 (doV op a b).2]) := by
  refine T.intro (TS.body mix Try.func81 (by kernel_rfl) rfl (by kernel_rfl) (by simp) ?_)
  by_cases hop : op ≠ 7 ∧ op ≠ 8 ∧ op ≠ 9
  · have e : doV op a b = (⟨0, 0, ⟨#[]⟩⟩, 3) := by unfold doV; rw [if_pos (by omega)]
    have e1 : ¬ op = 7 := by omega
    have e2 : ¬ op = 8 := by omega
    have e3 : ¬ op = 9 := by omega
    simp [e1, e2, e3, e]
  have hop : op = 7 ∨ op = 8 ∨ op = 9 := by omega
  rcases hop with rfl | rfl | rfl
  · simp
    repeat (refine ⟨by grind, ?_⟩)
    refine condK_of (fun h2 => ?_) (fun h2 => ?_)
    · simp at h2
      have e : doV 7 a b = (⟨0, 0, ⟨#[]⟩⟩, 3) := by unfold doV; rw [if_pos (by omega)]
      simp [e]
    simp at h2
    simp
    (first | refine TS.call' (T_isNull a) (by simp) ?_ | refine TDK.call' (T_isNull a) (by simp) ?_ | refine GTK.call (fun _ => ⟨T_isNull a, by simp⟩) ?_ | refine TS.call (T_isNull a) (by simp) ?_ | refine TDK.call (T_isNull a) (by simp) ?_); simp
    (first | refine TS.call' (T_isNull b) (by simp) ?_ | refine TDK.call' (T_isNull b) (by simp) ?_ | refine GTK.call (fun _ => ⟨T_isNull b, by simp⟩) ?_ | refine TS.call (T_isNull b) (by simp) ?_ | refine TDK.call (T_isNull b) (by simp) ?_); simp
    refine condK_of (fun h3 => ?_) (fun h3 => ?_)
    · simp at h3
      have e : doV 7 a b = (⟨0, 0, ⟨#[]⟩⟩, 0) := by unfold doV; rw [if_neg (by omega), if_pos (by omega)]
      simp
      (first | refine TS.call' (T_null) (by simp) ?_ | refine TDK.call' (T_null) (by simp) ?_ | refine GTK.call (fun _ => ⟨T_null, by simp⟩) ?_ | refine TS.call (T_null) (by simp) ?_ | refine TDK.call (T_null) (by simp) ?_); simp
      simp [e]
    simp at h3
    simp
    (first | refine TS.call' (T_aadd a.i b.i ha hb) (by simp) ?_ | refine TDK.call' (T_aadd a.i b.i ha hb) (by simp) ?_ | refine GTK.call (fun _ => ⟨T_aadd a.i b.i ha hb, by simp⟩) ?_ | refine TS.call (T_aadd a.i b.i ha hb) (by simp) ?_ | refine TDK.call (T_aadd a.i b.i ha hb) (by simp) ?_); simp
    by_cases hx : isI (a.i + b.i)
    · have e : doV 7 a b = (⟨1, a.i + b.i, ⟨#[]⟩⟩, 0) := by unfold doV; rw [if_neg (by omega), if_neg (by omega)]; simp [hx]
      simp [hx, narN]
      (first | refine TS.call' (T_int (a.i + b.i)) (by simp) ?_ | refine TDK.call' (T_int (a.i + b.i)) (by simp) ?_ | refine GTK.call (fun _ => ⟨T_int (a.i + b.i), by simp⟩) ?_ | refine TS.call (T_int (a.i + b.i)) (by simp) ?_ | refine TDK.call (T_int (a.i + b.i)) (by simp) ?_); simp
      simp [e]
    · have e : doV 7 a b = (⟨0, 0, ⟨#[]⟩⟩, 5) := by unfold doV; rw [if_neg (by omega), if_neg (by omega)]; simp [hx]
      simp [hx, e]
  · simp
    repeat (refine ⟨by grind, ?_⟩)
    refine condK_of (fun h2 => ?_) (fun h2 => ?_)
    · simp at h2
      have e : doV 8 a b = (⟨0, 0, ⟨#[]⟩⟩, 3) := by unfold doV; rw [if_pos (by omega)]
      simp [e]
    simp at h2
    simp
    (first | refine TS.call' (T_isNull a) (by simp) ?_ | refine TDK.call' (T_isNull a) (by simp) ?_ | refine GTK.call (fun _ => ⟨T_isNull a, by simp⟩) ?_ | refine TS.call (T_isNull a) (by simp) ?_ | refine TDK.call (T_isNull a) (by simp) ?_); simp
    (first | refine TS.call' (T_isNull b) (by simp) ?_ | refine TDK.call' (T_isNull b) (by simp) ?_ | refine GTK.call (fun _ => ⟨T_isNull b, by simp⟩) ?_ | refine TS.call (T_isNull b) (by simp) ?_ | refine TDK.call (T_isNull b) (by simp) ?_); simp
    refine condK_of (fun h3 => ?_) (fun h3 => ?_)
    · simp at h3
      have e : doV 8 a b = (⟨0, 0, ⟨#[]⟩⟩, 0) := by unfold doV; rw [if_neg (by omega), if_pos (by omega)]
      simp
      (first | refine TS.call' (T_null) (by simp) ?_ | refine TDK.call' (T_null) (by simp) ?_ | refine GTK.call (fun _ => ⟨T_null, by simp⟩) ?_ | refine TS.call (T_null) (by simp) ?_ | refine TDK.call (T_null) (by simp) ?_); simp
      simp [e]
    simp at h3
    simp
    (first | refine TS.call' (T_asub a.i b.i ha hb) (by simp) ?_ | refine TDK.call' (T_asub a.i b.i ha hb) (by simp) ?_ | refine GTK.call (fun _ => ⟨T_asub a.i b.i ha hb, by simp⟩) ?_ | refine TS.call (T_asub a.i b.i ha hb) (by simp) ?_ | refine TDK.call (T_asub a.i b.i ha hb) (by simp) ?_); simp
    by_cases hx : isI (a.i - b.i)
    · have e : doV 8 a b = (⟨1, a.i - b.i, ⟨#[]⟩⟩, 0) := by unfold doV; rw [if_neg (by omega), if_neg (by omega)]; simp [hx]
      simp [hx, narN]
      (first | refine TS.call' (T_int (a.i - b.i)) (by simp) ?_ | refine TDK.call' (T_int (a.i - b.i)) (by simp) ?_ | refine GTK.call (fun _ => ⟨T_int (a.i - b.i), by simp⟩) ?_ | refine TS.call (T_int (a.i - b.i)) (by simp) ?_ | refine TDK.call (T_int (a.i - b.i)) (by simp) ?_); simp
      simp [e]
    · have e : doV 8 a b = (⟨0, 0, ⟨#[]⟩⟩, 5) := by unfold doV; rw [if_neg (by omega), if_neg (by omega)]; simp [hx]
      simp [hx, e]
  · simp
    repeat (refine ⟨by grind, ?_⟩)
    refine condK_of (fun h2 => ?_) (fun h2 => ?_)
    · simp at h2
      have e : doV 9 a b = (⟨0, 0, ⟨#[]⟩⟩, 3) := by unfold doV; rw [if_pos (by omega)]
      simp [e]
    simp at h2
    simp
    (first | refine TS.call' (T_isNull a) (by simp) ?_ | refine TDK.call' (T_isNull a) (by simp) ?_ | refine GTK.call (fun _ => ⟨T_isNull a, by simp⟩) ?_ | refine TS.call (T_isNull a) (by simp) ?_ | refine TDK.call (T_isNull a) (by simp) ?_); simp
    (first | refine TS.call' (T_isNull b) (by simp) ?_ | refine TDK.call' (T_isNull b) (by simp) ?_ | refine GTK.call (fun _ => ⟨T_isNull b, by simp⟩) ?_ | refine TS.call (T_isNull b) (by simp) ?_ | refine TDK.call (T_isNull b) (by simp) ?_); simp
    refine condK_of (fun h3 => ?_) (fun h3 => ?_)
    · simp at h3
      have e : doV 9 a b = (⟨0, 0, ⟨#[]⟩⟩, 0) := by unfold doV; rw [if_neg (by omega), if_pos (by omega)]
      simp
      (first | refine TS.call' (T_null) (by simp) ?_ | refine TDK.call' (T_null) (by simp) ?_ | refine GTK.call (fun _ => ⟨T_null, by simp⟩) ?_ | refine TS.call (T_null) (by simp) ?_ | refine TDK.call (T_null) (by simp) ?_); simp
      simp [e]
    simp at h3
    simp
    (first | refine TS.call' (T_amul a.i b.i ha hb) (by simp) ?_ | refine TDK.call' (T_amul a.i b.i ha hb) (by simp) ?_ | refine GTK.call (fun _ => ⟨T_amul a.i b.i ha hb, by simp⟩) ?_ | refine TS.call (T_amul a.i b.i ha hb) (by simp) ?_ | refine TDK.call (T_amul a.i b.i ha hb) (by simp) ?_); simp
    by_cases hx : isI (a.i * b.i)
    · have e : doV 9 a b = (⟨1, a.i * b.i, ⟨#[]⟩⟩, 0) := by unfold doV; rw [if_neg (by omega), if_neg (by omega)]; simp [hx]
      simp [hx, narN]
      (first | refine TS.call' (T_int (a.i * b.i)) (by simp) ?_ | refine TDK.call' (T_int (a.i * b.i)) (by simp) ?_ | refine GTK.call (fun _ => ⟨T_int (a.i * b.i), by simp⟩) ?_ | refine TS.call (T_int (a.i * b.i)) (by simp) ?_ | refine TDK.call (T_int (a.i * b.i)) (by simp) ?_); simp
      simp [e]
    · have e : doV 9 a b = (⟨0, 0, ⟨#[]⟩⟩, 5) := by unfold doV; rw [if_neg (by omega), if_neg (by omega)]; simp [hx]
      simp [hx, e]
theorem T_rado (op : Int) (a b : Val) (ha : isI a.i) (hb : isI b.i) : T Try.prog 82 [.int .i64 op, a.av, b.av] (.tup [(doV op a b).1.av, .int .i64 (doV op a b).2]) := by
  refine T.intro (TS.body mix Try.func82 (by kernel_rfl) rfl (by kernel_rfl) (by simp) ?_)
  simp
  repeat (refine ⟨by grind, ?_⟩)
  refine condK_of (fun h2 => ?_) (fun h2 => ?_)
  · simp at h2
    have e : doV op a b = (⟨0, 0, ⟨#[]⟩⟩, 3) := by unfold doV; rw [if_pos (by omega)]
    simp [e]
  simp at h2
  simp
  refine condK_of (fun h3 => ?_) (fun h3 => ?_)
  · simp at h3
    have e : doV op a b = (⟨0, 0, ⟨#[]⟩⟩, 0) := by unfold doV; rw [if_neg (by omega), if_pos (by omega)]
    simp [e]
  simp at h3
  simp
  (first | refine TS.call' (T_raadd a.i b.i ha hb) (by simp) ?_ | refine TDK.call' (T_raadd a.i b.i ha hb) (by simp) ?_ | refine GTK.call (fun _ => ⟨T_raadd a.i b.i ha hb, by simp⟩) ?_ | refine TS.call (T_raadd a.i b.i ha hb) (by simp) ?_ | refine TDK.call (T_raadd a.i b.i ha hb) (by simp) ?_); simp
  have hop : op = 7 ∨ op = 8 ∨ op = 9 := by omega
  rcases hop with rfl | rfl | rfl
  · simp
    have e : doV 7 a b = if isI (a.i + b.i) then (⟨1, a.i + b.i, ⟨#[]⟩⟩, 0) else (⟨0, 0, ⟨#[]⟩⟩, 5) := by unfold doV; rw [if_neg (by omega), if_neg (by omega)]; simp
    by_cases hx : isI (a.i + b.i) <;> simp [e, hx, narN]
  · simp
    (first | refine TS.call' (T_rasub a.i b.i ha hb) (by simp) ?_ | refine TDK.call' (T_rasub a.i b.i ha hb) (by simp) ?_ | refine GTK.call (fun _ => ⟨T_rasub a.i b.i ha hb, by simp⟩) ?_ | refine TS.call (T_rasub a.i b.i ha hb) (by simp) ?_ | refine TDK.call (T_rasub a.i b.i ha hb) (by simp) ?_); simp
    have e : doV 8 a b = if isI (a.i - b.i) then (⟨1, a.i - b.i, ⟨#[]⟩⟩, 0) else (⟨0, 0, ⟨#[]⟩⟩, 5) := by unfold doV; rw [if_neg (by omega), if_neg (by omega)]; simp
    by_cases hx : isI (a.i - b.i) <;> simp [e, hx, narN]
  · simp
    (first | refine TS.call' (T_ramul a.i b.i ha hb) (by simp) ?_ | refine TDK.call' (T_ramul a.i b.i ha hb) (by simp) ?_ | refine GTK.call (fun _ => ⟨T_ramul a.i b.i ha hb, by simp⟩) ?_ | refine TS.call (T_ramul a.i b.i ha hb) (by simp) ?_ | refine TDK.call (T_ramul a.i b.i ha hb) (by simp) ?_); simp
    have e : doV 9 a b = if isI (a.i * b.i) then (⟨1, a.i * b.i, ⟨#[]⟩⟩, 0) else (⟨0, 0, ⟨#[]⟩⟩, 5) := by unfold doV; rw [if_neg (by omega), if_neg (by omega)]; simp
    by_cases hx : isI (a.i * b.i) <;> simp [e, hx, narN]
end Go.Proofs.Ytgmhmdmfnmlhmac.PL
