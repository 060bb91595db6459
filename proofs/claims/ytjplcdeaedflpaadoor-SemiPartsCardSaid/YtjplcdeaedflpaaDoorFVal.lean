/- What the functions of values tell. -/
import Derived.Test.YtjplcdeaedflpaaDoorTy
import Derived.Test.YtjplcdeaedflpaaDoorPLe
namespace Go.Proofs.YtjplcdeaedflpaaDoor.PL
open Go.Proofs
set_option linter.unusedVariables false
set_option linter.unusedSimpArgs false

structure Val where
  k : Int
  i : Int
  s : ByteArray
@[simp] abbrev Val.av (v : Val) : AV := .agg [.int .i64 v.k, .int .i64 v.i, .str v.s]
instance : Sized Val.av 3 := ⟨fun _ => rfl⟩
instance : Plain Val.av := ⟨fun _ => rfl⟩

def ints (a b : Int) : Int := if a < b then -1 else if a > b then 1 else 0
def texts : List UInt8 → List UInt8 → Int
  | [], [] => 0
  | [], _ :: _ => -1
  | _ :: _, [] => 1
  | x :: xs, y :: ys => if x = y then texts xs ys else if x < y then -1 else 1

theorem T_isNaN_int (a : Int) : T Tryd.prog 82 [.int .i64 a] (.bool false) := by
  refine T.intro (TS.body mix Tryd.func82 (by kernel_rfl) rfl (by kernel_rfl) (by simp) ?_)
  simp
theorem T_isNaN_string (a : ByteArray) : T Tryd.prog 98 [.str a] (.bool false) := by
  refine T.intro (TS.body mix Tryd.func98 (by kernel_rfl) rfl (by kernel_rfl) (by simp) ?_)
  simp
theorem T_cmp_int (a b : Int) : T Tryd.prog 94 [.int .i64 a, .int .i64 b] (.int .i64 (ints a b)) := by
  refine T.intro (TS.body mix Tryd.func94 (by kernel_rfl) rfl (by kernel_rfl) (by simp) ?_)
  simp
  (first | refine TS.call' (T_isNaN_int a) (by simp) ?_ | refine TDK.call' (T_isNaN_int a) (by simp) ?_ | refine GTK.call (fun _ => ⟨T_isNaN_int a, by simp⟩) ?_ | refine TS.call (T_isNaN_int a) (by simp) ?_ | refine TDK.call (T_isNaN_int a) (by simp) ?_); simp
  (first | refine TS.call' (T_isNaN_int b) (by simp) ?_ | refine TDK.call' (T_isNaN_int b) (by simp) ?_ | refine GTK.call (fun _ => ⟨T_isNaN_int b, by simp⟩) ?_ | refine TS.call (T_isNaN_int b) (by simp) ?_ | refine TDK.call (T_isNaN_int b) (by simp) ?_); simp
  simp [condK_iff, ints]
  omega
theorem less_iff : ∀ a b : List UInt8, Op.bytesLess a b = decide (texts a b = -1) := by
  intro a
  induction a with
  | nil => intro b; cases b <;> simp [Op.bytesLess, texts]
  | cons x xs ih =>
    intro b
    cases b with
    | nil => simp [Op.bytesLess, texts]
    | cons y ys =>
      simp only [Op.bytesLess, texts, ih]
      by_cases h : x = y
      · subst h; simp
      · by_cases h' : x < y <;> simp [h, h']
theorem texts_zero : ∀ a b : List UInt8, texts a b = 0 ↔ a = b := by
  intro a
  induction a with
  | nil => intro b; cases b <;> simp [texts]
  | cons x xs ih =>
    intro b
    cases b with
    | nil => simp [texts]
    | cons y ys =>
      simp only [texts]
      by_cases h : x = y
      · subst h; simp [ih]
      · by_cases h' : x < y <;> simp [h, h']
theorem texts_vals : ∀ a b : List UInt8, texts a b = -1 ∨ texts a b = 0 ∨ texts a b = 1 := by
  intro a
  induction a with
  | nil => intro b; cases b <;> simp [texts]
  | cons x xs ih =>
    intro b
    cases b with
    | nil => simp [texts]
    | cons y ys =>
      simp only [texts]
      by_cases h : x = y
      · subst h; simpa using ih ys
      · by_cases h' : x < y <;> simp [h, h']
theorem T_cmp_string (a b : ByteArray) : T Tryd.prog 95 [.str a, .str b] (.int .i64 (texts a.toList b.toList)) := by
  refine T.intro (TS.body mix Tryd.func95 (by kernel_rfl) rfl (by kernel_rfl) (by simp) ?_)
  simp
  (first | refine TS.call' (T_isNaN_string a) (by simp) ?_ | refine TDK.call' (T_isNaN_string a) (by simp) ?_ | refine GTK.call (fun _ => ⟨T_isNaN_string a, by simp⟩) ?_ | refine TS.call (T_isNaN_string a) (by simp) ?_ | refine TDK.call (T_isNaN_string a) (by simp) ?_); simp
  (first | refine TS.call' (T_isNaN_string b) (by simp) ?_ | refine TDK.call' (T_isNaN_string b) (by simp) ?_ | refine GTK.call (fun _ => ⟨T_isNaN_string b, by simp⟩) ?_ | refine TS.call (T_isNaN_string b) (by simp) ?_ | refine TDK.call (T_isNaN_string b) (by simp) ?_); simp
  simp [less_iff, condK_iff]
  have h1 := texts_zero a.toList b.toList
  rw [toList_inj] at h1
  have h2 := texts_vals a.toList b.toList
  grind

def orInt : List Int → Int
  | [] => 0
  | n :: l => if n = 0 then orInt l else n
theorem T_or_int (l : List Int) (hl : l.length < 4611686018427387904) : T Tryd.prog 93 [.sl .exact (l.map fun n => .int .i64 n)] (.int .i64 (orInt l)) := by
  refine T.intro (TS.body mix Tryd.func93 (by kernel_rfl) rfl (by kernel_rfl) (by simp) ?_)
  simp
  refine vc_loop (fun i : Nat => l.length - i) (fun i e H => e 6 = .sl .exact (l.map fun n => .int .i64 n) ∧ e 7 = .int .i64 l.length ∧ e 8 = .int .i64 i ∧ e 3 = .int .i64 0 ∧ i ≤ l.length ∧ orInt l = orInt (l.drop i)) 0 ?_ ?_
  · simp
  rintro i e H ⟨h6, h7, h8, h3, hi, hz⟩
  rw [hz]
  by_cases h : i < l.length
  · simp [h6, h7, h8, h3, h]
    refine condK_of (fun h' => ?_) (fun h' => ?_)
    · have h' : ¬ l[i] = 0 := by simpa using h'
      simp
      rw [List.drop_eq_getElem_cons h, orInt, if_neg h']
    · have h' : l[i] = 0 := by simpa using h'
      simp [h6, h7, h8, h3]
      exact ⟨i + 1, by omega, by rw [wrap_i64 (by omega) (by omega)]; simp, by omega, by rw [List.drop_eq_getElem_cons h]; simp [orInt, h']⟩
  · have : i = l.length := by omega
    subst this
    simp [h6, h7, h8, h3, orInt]
def order (a b : Val) : Int := if a.k ≠ b.k then ints a.k b.k else if a.i ≠ b.i then ints a.i b.i else texts a.s.toList b.s.toList
theorem ints_zero (a b : Int) : ints a b = 0 ↔ a = b := by unfold ints; split <;> (try split) <;> omega
theorem T_order (a b : Val) : T Tryd.prog 87 [a.av, b.av] (.int .i64 (order a b)) := by
  refine T.intro (TS.body mix Tryd.func87 (by kernel_rfl) rfl (by kernel_rfl) (by simp) ?_)
  simp
  refine TDK.call' (T_cmp_int _ _) (by simp) ?_
  simp
  refine TDK.call' (T_cmp_int _ _) (by simp) ?_
  simp
  refine TDK.call' (T_cmp_string _ _) (by simp) ?_
  simp
  refine TDK.call (T_or_int [ints a.k b.k, ints a.i b.i, texts a.s.toList b.s.toList] (by show 3 < _; omega)) (by simp) ?_
  simp [order, orInt, ints_zero]
  by_cases h : a.k = b.k <;> by_cases h' : a.i = b.i <;> simp [h, h'] <;> (intro e; exact e.symm)

theorem T_rsame (a b : Val) : T Tryd.prog 26 [a.av, b.av] (.bool (decide (a.k = b.k ∧ a.i = b.i ∧ a.s = b.s))) := by
  refine T.intro (TS.body mix Tryd.func26 (by kernel_rfl) rfl (by kernel_rfl) (by simp) ?_)
  simp [Bool.and_assoc]
  grind

theorem T_cmp (a b : Val) : T Tryd.prog 75 [a.av, b.av] (.tup [.int .i64 (if a.k = b.k ∧ (a.k = 1 ∨ a.k = 2) then order a b else 0), .bool (decide (a.k = b.k ∧ (a.k = 1 ∨ a.k = 2)))]) := by
  refine T.intro (TS.body mix Tryd.func75 (by kernel_rfl) rfl (by kernel_rfl) (by simp) ?_)
  simp
  refine ⟨by grind, by grind, condK_of (fun h => ?_) (fun h => ?_)⟩
  · simp at h
    simp
    grind
  · simp at h
    simp
    refine TS.call' (T_order a b) (by simp) ?_
    simp
    grind




theorem order_zero (a b : Val) : order a b = 0 ↔ a.k = b.k ∧ a.i = b.i ∧ a.s = b.s := by
  unfold order
  by_cases h : a.k = b.k <;> by_cases h' : a.i = b.i <;> simp [h, h', ints_zero, texts_zero, toList_inj]

theorem Val_in {cs : List AV} (h : Sh Tryd.prog 36 cs) : ∃ v : Val, mkAV true cs = v.av ∧ cs = [.int .i64 v.k, .int .i64 v.i, .str v.s] ∧ (-9223372036854775808 ≤ v.k ∧ v.k < 9223372036854775808) ∧ (-9223372036854775808 ≤ v.i ∧ v.i < 9223372036854775808) ∧ v.s.size ≤ reachBytes := by
  obtain ⟨hl, hf⟩ := h.struct_of ft_36
  obtain ⟨x, y, z, rfl⟩ : ∃ x y z, cs = [x, y, z] := by
    match cs, hl with
    | [x, y, z], _ => exact ⟨x, y, z, rfl⟩
  obtain ⟨k, h1, w1⟩ := (hf (3, 0, 1) (by simp)).int_of un_3
  obtain ⟨i, h2, w2⟩ := (hf (3, 1, 1) (by simp)).int_of un_3
  obtain ⟨s, h3, w3⟩ := (hf (9, 2, 1) (by simp)).str_of un_9
  simp at h1 h2 h3
  subst h1; subst h2; subst h3
  exact ⟨⟨k, i, s⟩, rfl, rfl, i64_wf w1, i64_wf w2, w3⟩
def rightV (v : Val) : Bool := if v.k = 0 then v.i == 0 && decide (v.s = ByteArray.empty) else if v.k = 1 then decide (v.s = ByteArray.empty) else if v.k = 2 then v.i == 0 && decide (v.s.size ≤ 65536) else false






theorem isByte_int {n : Int} : isByte (.int .u8 n) = (0 ≤ n ∧ n < 256) := rfl
theorem avByte_int {k : IntKind} {n : Int} : avByte (.int k n) = UInt8.ofNat n.toNat := rfl
def dig (x : Nat) (j : Nat) : UInt8 := UInt8.ofNat (x / 256 ^ j % 256)
def keyI (i : Int) : ByteArray := ⟨#[105, dig (i + 9223372036854775808).toNat 7, dig (i + 9223372036854775808).toNat 6, dig (i + 9223372036854775808).toNat 5, dig (i + 9223372036854775808).toNat 4, dig (i + 9223372036854775808).toNat 3, dig (i + 9223372036854775808).toNat 2, dig (i + 9223372036854775808).toNat 1, dig (i + 9223372036854775808).toNat 0]⟩
theorem xor_top {a : Nat} (h : a < 18446744073709551616) : a ^^^ 9223372036854775808 = (a + 9223372036854775808) % 18446744073709551616 := by
  have h1 : (a ^^^ 9223372036854775808) / 2 ^ 63 = (a / 2 ^ 63) ^^^ (9223372036854775808 / 2 ^ 63) := Nat.xor_div_two_pow
  have h2 : (a ^^^ 9223372036854775808) % 2 ^ 63 = (a % 2 ^ 63) ^^^ (9223372036854775808 % 2 ^ 63) := Nat.xor_mod_two_pow
  have h3 : a / 2 ^ 63 = 0 ∨ a / 2 ^ 63 = 1 := by omega
  have e1 : (9223372036854775808 / 2 ^ 63 : Nat) = 1 := by decide
  have e2 : (9223372036854775808 % 2 ^ 63 : Nat) = 0 := by decide
  rw [e1] at h1
  rw [e2, Nat.xor_zero] at h2
  rcases h3 with h3 | h3
  · rw [h3] at h1
    have : (0 ^^^ 1 : Nat) = 1 := by decide
    omega
  · rw [h3] at h1
    have : (1 ^^^ 1 : Nat) = 0 := by decide
    omega
theorem dig_u8 {x : Nat} (j : Nat) (d : Int) (hd : d = ((256 ^ j : Nat) : Int)) : IntKind.u8.wrap ((x : Int).fdiv d) = ((x / 256 ^ j % 256 : Nat) : Int) := by
  have hw : ∀ n : Int, IntKind.u8.wrap n = n % 256 := fun n => by unfold IntKind.wrap; simp [IntKind.signed, IntKind.bits]
  rw [hw, hd, Int.fdiv_eq_ediv_of_nonneg _ (Int.natCast_nonneg _), Int.natCast_emod, Int.natCast_ediv]
  rfl
theorem key_top {i : Int} (hl : -9223372036854775808 ≤ i) (hh : i < 9223372036854775808) : IntKind.u64.wrap ↑((IntKind.u64.wrap i % 18446744073709551616).toNat ^^^ 9223372036854775808) = ((i + 9223372036854775808).toNat : Int) := by
  have hw : IntKind.u64.wrap i = i % 18446744073709551616 := by unfold IntKind.wrap; simp [IntKind.signed, IntKind.bits]
  rw [hw, xor_top (by omega), wrap_u64 (by omega) (by omega)]
  omega
theorem dig_u8' {x : Nat} : IntKind.u8.wrap (x : Int) = ((x / 256 ^ 0 % 256 : Nat) : Int) := by
  unfold IntKind.wrap; simp [IntKind.signed, IntKind.bits]
theorem dig_ok {x : Nat} (j : Nat) : (0 ≤ ((x / 256 ^ j % 256 : Nat) : Int) ∧ ((x / 256 ^ j % 256 : Nat) : Int) < 256) = True := eq_true ⟨Int.natCast_nonneg _, by have := Nat.mod_lt (x / 256 ^ j) (show 256 > 0 by decide); omega⟩
theorem rk_top {i : Int} (hl : -9223372036854775808 ≤ i) (hh : i < 9223372036854775808) : IntKind.u64.wrap (IntKind.u64.wrap i + 9223372036854775808) = (((i + 9223372036854775808).toNat / 256 ^ 0 : Nat) : Int) := by
  have hw : ∀ i, IntKind.u64.wrap i = i % 18446744073709551616 := fun i => by unfold IntKind.wrap; simp [IntKind.signed, IntKind.bits]
  rw [hw, hw, Nat.pow_zero, Nat.div_one]
  omega
theorem rk_step {x : Nat} (j k : Nat) (hj : k = j + 1) (h : x < 18446744073709551616) : IntKind.u64.wrap (((x / 256 ^ j : Nat) : Int).tdiv 256) = ((x / 256 ^ k : Nat) : Int) := by
  have h1 : x / 256 ^ j ≤ x := Nat.div_le_self _ _
  rw [hj, Nat.pow_succ, ← Nat.div_div_eq_div_mul]
  generalize x / 256 ^ j = y at h1
  rw [show (y : Int).tdiv 256 = ((y / 256 : Nat) : Int) from rfl]
  exact wrap_u64 (by omega) (by omega)
theorem rk_dig {x : Nat} (j : Nat) : IntKind.u8.wrap (((x / 256 ^ j : Nat) : Int).tmod 256) = ((x / 256 ^ j % 256 : Nat) : Int) := by
  generalize x / 256 ^ j = y
  rw [show (y : Int).tmod 256 = ((y % 256 : Nat) : Int) from rfl]
  exact wrap_u8 (by omega) (by omega)
theorem T_key1 (v : Val) (h : v.k = 1) (hl : -9223372036854775808 ≤ v.i) (hh : v.i < 9223372036854775808) : T Tryd.prog 51 [v.av] (.str (keyI v.i)) := by
  refine T.intro (TS.body mix Tryd.func51 (by kernel_rfl) rfl (by kernel_rfl) (by simp) ?_)
  simp [h]
  refine vc_rnds 8 ?_
  simp
  refine rnds.next ?_
  simp
  refine rnds.next ?_
  simp
  refine rnds.next ?_
  simp
  refine rnds.next ?_
  simp
  refine rnds.next ?_
  simp
  refine rnds.next ?_
  simp
  refine rnds.next ?_
  simp
  refine rnds.next ?_
  simp
  simp only [isByte_int, avByte_int, key_top hl hh, dig_u8 7 72057594037927936 (by decide), dig_u8 6 281474976710656 (by decide), dig_u8 5 1099511627776 (by decide), dig_u8 4 4294967296 (by decide), dig_u8 3 16777216 (by decide), dig_u8 2 65536 (by decide), dig_u8 1 256 (by decide), dig_u8', dig_ok, Int.toNat_natCast, and_true]
  exact ⟨by decide, rfl⟩

def keyV (v : Val) : ByteArray := if v.k = 0 then ⟨#[110]⟩ else if v.k = 1 then keyI v.i else if v.k = 2 then ⟨#[116]⟩ ++ v.s else ⟨#[]⟩
theorem T_keyW (v : Val) (hl : -9223372036854775808 ≤ v.i) (hh : v.i < 9223372036854775808) (hs : v.s.size ≤ 1000000) : T Tryd.prog 51 [v.av] (.str (keyV v)) := by
  by_cases h1 : v.k = 1
  · have e : keyV v = keyI v.i := by simp [keyV, h1]
    rw [e]; exact T_key1 v h1 hl hh
  refine T.intro (TS.body mix Tryd.func51 (by kernel_rfl) rfl (by kernel_rfl) (by simp) ?_)
  simp [h1]
  simp only [condK_iff, keyV]
  by_cases h0 : v.k = 0
  · simp [h0]
  · by_cases h2 : v.k = 2
    · have : ByteArray.size ⟨#[116]⟩ = 1 := rfl
      simp [h2]; omega
    · simp [h0, h1, h2]

theorem T_key (v : Val) (hl : -9223372036854775808 ≤ v.i) (hh : v.i < 9223372036854775808) (hs : v.s.size ≤ 300) : T Tryd.prog 51 [v.av] (.str (keyV v)) := T_keyW v hl hh (by omega)

def digs (x : Nat) : Nat → List UInt8
  | 0 => []
  | n + 1 => dig x n :: digs x n
theorem dig_nat (x j : Nat) : (dig x j).toNat = x / 256 ^ j % 256 := by
  unfold dig; rw [UInt8.toNat_ofNat']; exact Nat.mod_eq_of_lt (Nat.mod_lt _ (by decide))
theorem texts_digs (x y : Nat) : ∀ n, texts (digs x n) (digs y n) = ints ((x % 256 ^ n : Nat) : Int) ((y % 256 ^ n : Nat) : Int)
  | 0 => by simp [digs, texts, ints, Nat.mod_one]
  | n + 1 => by
    have hp : 0 < 256 ^ n := Nat.pow_pos (by decide)
    have hx : x % 256 ^ (n + 1) = x % 256 ^ n + 256 ^ n * (x / 256 ^ n % 256) := Nat.mod_mul
    have hy : y % 256 ^ (n + 1) = y % 256 ^ n + 256 ^ n * (y / 256 ^ n % 256) := Nat.mod_mul
    have h1 := Nat.mod_lt x hp
    have h2 := Nat.mod_lt y hp
    have ih := texts_digs x y n
    rw [hx, hy]
    simp only [digs, texts]
    have e1 := dig_nat x n
    have e2 := dig_nat y n
    have el : dig x n < dig y n ↔ x / 256 ^ n % 256 < y / 256 ^ n % 256 := by rw [UInt8.lt_iff_toNat_lt, e1, e2]
    have ee : dig x n = dig y n ↔ x / 256 ^ n % 256 = y / 256 ^ n % 256 := by rw [← UInt8.toNat_inj, e1, e2]
    rw [ih]
    generalize x / 256 ^ n % 256 = d at *
    generalize y / 256 ^ n % 256 = d' at *
    generalize 256 ^ n = p at *
    generalize x % p = r at *
    generalize y % p = r' at *
    by_cases hd : d = d'
    · subst hd
      rw [if_pos (ee.2 rfl)]
      unfold ints
      have : ∀ a b c : Nat, ((a + c : Nat) : Int) < ((b + c : Nat) : Int) ↔ (a : Int) < (b : Int) := by intros; omega
      simp only [this, gt_iff_lt]
    · rw [if_neg (fun h => hd (ee.1 h))]
      rcases Nat.lt_or_ge d d' with hlt | hge
      · rw [if_pos (el.2 hlt)]
        have := Nat.mul_le_mul_left p (show d + 1 ≤ d' from hlt)
        rw [Nat.mul_add, Nat.mul_one] at this
        unfold ints
        rw [if_pos (by omega)]
      · rw [if_neg (fun h => by have := el.1 h; omega)]
        have := Nat.mul_le_mul_left p (show d' + 1 ≤ d by omega)
        rw [Nat.mul_add, Nat.mul_one] at this
        unfold ints
        rw [if_neg (by omega), if_pos (by omega)]
theorem keyI_list (i : Int) : (keyI i).toList = 105 :: digs (i + 9223372036854775808).toNat 8 := by rw [ByteArray.toList_eq]; rfl
theorem keyI_texts {i j : Int} (ha : -9223372036854775808 ≤ i ∧ i < 9223372036854775808) (hb : -9223372036854775808 ≤ j ∧ j < 9223372036854775808) : texts (keyI i).toList (keyI j).toList = ints i j := by
  rw [keyI_list, keyI_list]
  simp only [texts, if_true]
  rw [texts_digs, Nat.mod_eq_of_lt (by omega), Nat.mod_eq_of_lt (by omega)]
  unfold ints
  rw [Int.toNat_of_nonneg (by omega), Int.toNat_of_nonneg (by omega)]
  simp
theorem keyT_list (s : ByteArray) : (⟨#[116]⟩ ++ s : ByteArray).toList = 116 :: s.toList := by
  rw [ByteArray.toList_eq, ByteArray.toList_eq, ByteArray.data_append]; simp
theorem keys_order {a b : Val} (ha : -9223372036854775808 ≤ a.i ∧ a.i < 9223372036854775808) (hb : -9223372036854775808 ≤ b.i ∧ b.i < 9223372036854775808) (ra : rightV a = true) (rb : rightV b = true) (h : a.k = b.k) :
    texts (keyV a).toList (keyV b).toList = order a b := by
  unfold order
  rw [if_neg (fun x => x h)]
  unfold keyV
  rw [← h]
  unfold rightV at ra rb
  rw [← h] at rb
  by_cases h0 : a.k = 0
  · simp [h0] at ra rb
    simp [h0, ra, rb, texts_zero]
    exact (texts_zero _ _).2 rfl
  · by_cases h1 : a.k = 1
    · simp [h1] at ra rb
      simp only [h1, show ¬ ((1 : Int) = 0) by decide, if_true, if_false, ra, rb]
      rw [keyI_texts ha hb]
      by_cases hi : a.i = b.i
      · simp [hi, ints, (texts_zero [] []).2 rfl]
      · simp [hi]
    · by_cases h2 : a.k = 2
      · simp [h2] at ra rb
        simp only [h2, ra.1, rb.1]
        simp only [show ¬ ((2 : Int) = 0) by decide, show ¬ ((2 : Int) = 1) by decide, if_true, if_false, keyT_list, texts]
        simp
      · simp [h0, h1, h2] at ra
theorem keys_same {a b : Val} (ha : -9223372036854775808 ≤ a.i ∧ a.i < 9223372036854775808) (hb : -9223372036854775808 ≤ b.i ∧ b.i < 9223372036854775808) (ra : rightV a = true) (rb : rightV b = true) :
    keyV a = keyV b ↔ a.k = b.k ∧ a.i = b.i ∧ a.s = b.s := by
  by_cases h : a.k = b.k
  · rw [← order_zero, ← keys_order ha hb ra rb h, texts_zero, toList_inj]
  · have hk : ∀ v : Val, rightV v = true → ∃ r, (keyV v).toList = (if v.k = 0 then 110 else if v.k = 1 then 105 else 116) :: r ∧ (v.k = 0 ∨ v.k = 1 ∨ v.k = 2) := by
      intro v rv
      unfold keyV
      by_cases h0 : v.k = 0
      · exact ⟨[], by simp [h0, ByteArray.toList_eq], .inl h0⟩
      · by_cases h1 : v.k = 1
        · exact ⟨_, by simp only [h1, if_true, show ¬ ((1 : Int) = 0) by decide, if_false]; exact keyI_list _, .inr (.inl h1)⟩
        · by_cases h2 : v.k = 2
          · exact ⟨v.s.toList, by simp only [h2, if_true, show ¬ ((2 : Int) = 0) by decide, show ¬ ((2 : Int) = 1) by decide, if_false]; exact keyT_list _, .inr (.inr h2)⟩
          · simp [rightV, h0, h1, h2] at rv
    obtain ⟨r, e1, c1⟩ := hk a ra
    obtain ⟨r', e2, c2⟩ := hk b rb
    constructor
    · intro e
      rw [e, e2] at e1
      simp only [List.cons.injEq] at e1
      exfalso
      rcases c1 with c | c | c <;> rcases c2 with c' | c' | c' <;> rw [c, c'] at e1 <;> first | exact absurd e1.1 (by decide) | exact h (by rw [c, c'])
    · intro e; exact absurd e.1 h




end Go.Proofs.YtjplcdeaedflpaaDoor.PL
