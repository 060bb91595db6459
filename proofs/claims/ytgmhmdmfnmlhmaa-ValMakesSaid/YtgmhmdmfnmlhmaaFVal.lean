/- What the functions of values tell. -/
import Derived.Test.YtgmhmdmfnmlhmaaTy
namespace Go.Proofs.Ytgmhmdmfnmlhmaa.PL
open Go.Proofs
set_option linter.unusedVariables false
set_option linter.unusedSimpArgs false

structure Val where
  k : Int
  i : Int
  s : ByteArray
@[simp] def Val.av (v : Val) : AV := .agg [.int .i64 v.k, .int .i64 v.i, .str v.s]

def ints (a b : Int) : Int := if a < b then -1 else if a > b then 1 else 0
def texts : List UInt8 → List UInt8 → Int
  | [], [] => 0
  | [], _ :: _ => -1
  | _ :: _, [] => 1
  | x :: xs, y :: ys => if x = y then texts xs ys else if x < y then -1 else 1
theorem T_ints (a b : Int) : T Try.prog 83 [.int .i64 a, .int .i64 b] (.int .i64 (ints a b)) := by
  refine T.intro (TS.body mix Try.func83 (by kernel_rfl) rfl (by kernel_rfl) (by simp) ?_)
  simp
  refine condK_of (fun h => ?_) (fun h => ?_)
  · simp at h; simp [ints, h]
  · simp at h
    refine condK_of (fun h' => ?_) (fun h' => ?_) <;> simp at h' <;> simp [ints, Int.not_lt.2 h, h'] <;> omega
theorem T_isNaN_int (a : Int) : T Try.prog 108 [.int .i64 a] (.bool false) := by
  refine T.intro (TS.body mix Try.func108 (by kernel_rfl) rfl (by kernel_rfl) (by simp) ?_)
  simp
theorem T_isNaN_string (a : ByteArray) : T Try.prog 109 [.str a] (.bool false) := by
  refine T.intro (TS.body mix Try.func109 (by kernel_rfl) rfl (by kernel_rfl) (by simp) ?_)
  simp
theorem T_cmp_int (a b : Int) : T Try.prog 81 [.int .i64 a, .int .i64 b] (.int .i64 (ints a b)) := by
  refine T.intro (TS.body mix Try.func81 (by kernel_rfl) rfl (by kernel_rfl) (by simp) ?_)
  simp
  refine TS.call' (T_isNaN_int _) (by simp) ?_
  simp
  refine TS.call' (T_isNaN_int _) (by simp) ?_
  simp
  refine condK_of (fun h => ?_) (fun h => ?_)
  · simp at h; simp [ints, h]
  · simp at h
    refine condK_of (fun h' => ?_) (fun h' => ?_) <;> simp at h' <;> simp [ints, Int.not_lt.2 h, h'] <;> omega
theorem less_iff : ∀ a b : List UInt8, Op.bytesLess a b = decide (texts a b = -1) := by
  intro a
  induction a with
  | nil => intro b; cases b <;> simp [Op.bytesLess, texts]
  | cons x xs ih =>
    intro b
    cases b with
    | nil => simp [Op.bytesLess, texts]
    | cons y ys =>
      simp only [Op.bytesLess, texts, ih]
      by_cases h : x = y
      · subst h; simp
      · by_cases h' : x < y <;> simp [h, h']
theorem texts_zero : ∀ a b : List UInt8, texts a b = 0 ↔ a = b := by
  intro a
  induction a with
  | nil => intro b; cases b <;> simp [texts]
  | cons x xs ih =>
    intro b
    cases b with
    | nil => simp [texts]
    | cons y ys =>
      simp only [texts]
      by_cases h : x = y
      · subst h; simp [ih]
      · by_cases h' : x < y <;> simp [h, h']
theorem texts_vals : ∀ a b : List UInt8, texts a b = -1 ∨ texts a b = 0 ∨ texts a b = 1 := by
  intro a
  induction a with
  | nil => intro b; cases b <;> simp [texts]
  | cons x xs ih =>
    intro b
    cases b with
    | nil => simp [texts]
    | cons y ys =>
      simp only [texts]
      by_cases h : x = y
      · subst h; simpa using ih ys
      · by_cases h' : x < y <;> simp [h, h']
theorem T_cmp_string (a b : ByteArray) : T Try.prog 82 [.str a, .str b] (.int .i64 (texts a.toList b.toList)) := by
  refine T.intro (TS.body mix Try.func82 (by kernel_rfl) rfl (by kernel_rfl) (by simp) ?_)
  simp
  refine TS.call' (T_isNaN_string _) (by simp) ?_
  simp
  refine TS.call' (T_isNaN_string _) (by simp) ?_
  simp [less_iff]
  refine condK_of (fun h => ?_) (fun h => ?_)
  · simp at h; simp [h]
  · simp at h
    refine condK_of (fun h' => ?_) (fun h' => ?_)
    · simp [h] at h'
      have := texts_zero a.toList b.toList
      rw [toList_inj] at this
      rcases texts_vals a.toList b.toList with e | e | e <;> simp_all
    · simp [h] at h'
      have := texts_zero a.toList b.toList
      rw [toList_inj] at this
      rcases texts_vals a.toList b.toList with e | e | e <;> simp_all
theorem T_texts (a b : ByteArray) (ha : a.size < 4611686018427387904) : T Try.prog 36 [.str a, .str b] (.int .i64 (texts a.toList b.toList)) := by
  refine T.intro (TS.body mix Try.func36 (by kernel_rfl) rfl (by kernel_rfl) (by simp) ?_)
  simp
  refine vc_loop (fun i : Nat => a.size - i) (fun i e H => e 0 = .str a ∧ e 1 = .str b ∧ e 5 = .int .i64 i ∧ i ≤ a.size ∧ i ≤ b.size ∧ texts a.toList b.toList = texts (a.toList.drop i) (b.toList.drop i)) 0 ?_ ?_
  · simp
  rintro i e H ⟨h0, h1, h5, hia, hib, ht⟩
  simp [h0, h1, h5]
  refine condK_of (fun h => ?_) (fun h => ?_)
  · simp at h
    have la : i < a.toList.length := by rw [toList_length]; exact h.1
    have lb : i < b.toList.length := by rw [toList_length]; exact h.2
    have ea : a.toList.drop i = _ := List.drop_eq_getElem_cons la
    have eb : b.toList.drop i = _ := List.drop_eq_getElem_cons lb
    simp [h.1, h.2, byteAt_get la, byteAt_get lb]
    rw [ht, ea, eb]
    refine condK_of (fun h' => ?_) (fun h' => ?_)
    · simp at h'
      have h2 : a.toList[i] ≠ b.toList[i] := fun x => h' (by rw [x])
      refine condK_of (fun h3 => ?_) (fun h3 => ?_) <;> simp at h3 <;> simp [texts, h2, UInt8.lt_iff_toNat_lt] <;> omega
    · simp at h'
      refine ⟨i + 1, by omega, by rw [wrap_i64 (by omega) (by omega)]; simp, h.1, h.2, ?_⟩
      have h2 : a.toList[i] = b.toList[i] := UInt8.toNat_inj.1 (by exact_mod_cast h')
      simp [texts, h2]
  · simp at h
    rw [ht]
    have la := toList_length a
    have lb := toList_length b
    by_cases h1 : i < a.size
    · have h2 : b.size = i := by have := h h1; omega
      have ea : a.toList.drop i = _ := List.drop_eq_getElem_cons (by omega)
      have eb : b.toList.drop i = [] := List.drop_of_length_le (by omega)
      rw [ea, eb]
      have h3 : ¬ a.size < b.size := by omega
      have h4 : b.size < a.size := by omega
      simp [texts, h3, h4]
    · have ea : a.toList.drop i = [] := List.drop_of_length_le (by omega)
      by_cases h2 : i < b.size
      · have eb : b.toList.drop i = _ := List.drop_eq_getElem_cons (by omega)
        rw [ea, eb]
        have h3 : a.size < b.size := by omega
        simp [texts, h3]
      · have eb : b.toList.drop i = [] := List.drop_of_length_le (by omega)
        rw [ea, eb]
        have h3 : ¬ a.size < b.size := by omega
        have h4 : ¬ b.size < a.size := by omega
        simp [texts, h3, h4]
def orInt : List Int → Int
  | [] => 0
  | n :: l => if n = 0 then orInt l else n
theorem T_or_int (l : List Int) (hl : l.length < 4611686018427387904) : T Try.prog 80 [.sl .exact (l.map fun n => .int .i64 n)] (.int .i64 (orInt l)) := by
  refine T.intro (TS.body mix Try.func80 (by kernel_rfl) rfl (by kernel_rfl) (by simp) ?_)
  simp
  refine vc_loop (fun i : Nat => l.length - i) (fun i e H => e 6 = .sl .exact (l.map fun n => .int .i64 n) ∧ e 7 = .int .i64 l.length ∧ e 8 = .int .i64 i ∧ e 3 = .int .i64 0 ∧ i ≤ l.length ∧ orInt l = orInt (l.drop i)) 0 ?_ ?_
  · simp
  rintro i e H ⟨h6, h7, h8, h3, hi, hz⟩
  rw [hz]
  by_cases h : i < l.length
  · simp [h6, h7, h8, h3, h]
    refine condK_of (fun h' => ?_) (fun h' => ?_)
    · have h' : ¬ l[i] = 0 := by simpa using h'
      rw [List.drop_eq_getElem_cons h, orInt, if_neg h']
    · have h' : l[i] = 0 := by simpa using h'
      exact ⟨i + 1, by omega, by rw [wrap_i64 (by omega) (by omega)]; simp, by omega, by rw [List.drop_eq_getElem_cons h]; simp [orInt, h']⟩
  · have : i = l.length := by omega
    subst this
    simp [h6, h7, h8, h3, orInt]
def order (a b : Val) : Int := if a.k ≠ b.k then ints a.k b.k else if a.i ≠ b.i then ints a.i b.i else texts a.s.toList b.s.toList
theorem T_rorder (a b : Val) (ha : a.s.size < 4611686018427387904) : T Try.prog 25 [a.av, b.av] (.int .i64 (order a b)) := by
  refine T.intro (TS.body mix Try.func25 (by kernel_rfl) rfl (by kernel_rfl) (by simp) ?_)
  simp
  refine condK_of (fun h => ?_) (fun h => ?_)
  · simp at h
    refine TS.call' (T_ints _ _) (by simp) ?_
    simp [order, h]
  · simp at h
    simp [order, h]
    refine condK_of (fun h2 => ?_) (fun h2 => ?_)
    · simp at h2
      refine TS.call' (T_ints _ _) (by simp) ?_
      simp [h2]
    · simp at h2
      refine TS.call' (T_texts _ _ ha) (by simp) ?_
      simp [h2]
theorem ints_zero (a b : Int) : ints a b = 0 ↔ a = b := by unfold ints; split <;> (try split) <;> omega
theorem T_order (a b : Val) : T Try.prog 24 [a.av, b.av] (.int .i64 (order a b)) := by
  refine T.intro (TS.body mix Try.func24 (by kernel_rfl) rfl (by kernel_rfl) (by simp) ?_)
  simp
  refine TDK.call' (T_cmp_int _ _) (by simp) ?_
  simp
  refine TDK.call' (T_cmp_int _ _) (by simp) ?_
  simp
  refine TDK.call' (T_cmp_string _ _) (by simp) ?_
  simp
  refine TDK.call (T_or_int [ints a.k b.k, ints a.i b.i, texts a.s.toList b.s.toList] (by show 3 < _; omega)) (by simp) ?_
  simp [order, orInt, ints_zero]
  by_cases h : a.k = b.k <;> by_cases h' : a.i = b.i <;> simp [h, h'] <;> (intro e; exact e.symm)
theorem T_rcmp (a b : Val) (ha : a.s.size < 4611686018427387904) : T Try.prog 23 [a.av, b.av] (.tup [.int .i64 (if a.k = b.k ∧ (a.k = 1 ∨ a.k = 2) then order a b else 0), .bool (decide (a.k = b.k ∧ (a.k = 1 ∨ a.k = 2)))]) := by
  refine T.intro (TS.body mix Try.func23 (by kernel_rfl) rfl (by kernel_rfl) (by simp) ?_)
  simp
  refine ⟨by grind, by grind, condK_of (fun h => ?_) (fun h => ?_)⟩
  · simp at h
    refine TS.call' (T_rorder a b ha) (by simp) ?_
    simp
    grind
  · simp at h
    grind
theorem T_rsame (a b : Val) : T Try.prog 27 [a.av, b.av] (.bool (decide (a.k = b.k ∧ a.i = b.i ∧ a.s = b.s))) := by
  refine T.intro (TS.body mix Try.func27 (by kernel_rfl) rfl (by kernel_rfl) (by simp) ?_)
  simp [Bool.and_assoc]
  grind
theorem T_same (a b : Val) : T Try.prog 26 [a.av, b.av] (.bool (decide (a.k = b.k ∧ a.i = b.i ∧ a.s = b.s))) := by
  refine T.intro (TS.body mix Try.func26 (by kernel_rfl) rfl (by kernel_rfl) (by simp) ?_)
  simp [Bool.and_assoc]
theorem T_cmp (a b : Val) : T Try.prog 22 [a.av, b.av] (.tup [.int .i64 (if a.k = b.k ∧ (a.k = 1 ∨ a.k = 2) then order a b else 0), .bool (decide (a.k = b.k ∧ (a.k = 1 ∨ a.k = 2)))]) := by
  refine T.intro (TS.body mix Try.func22 (by kernel_rfl) rfl (by kernel_rfl) (by simp) ?_)
  simp
  refine ⟨by grind, by grind, condK_of (fun h => ?_) (fun h => ?_)⟩
  · simp at h
    grind
  · simp at h
    refine TS.call' (T_order a b) (by simp) ?_
    simp
    grind
theorem T_int (n : Int) : T Try.prog 28 [.int .i64 n] (Val.av ⟨1, n, ⟨#[]⟩⟩) := by
  refine T.intro (TS.body mix Try.func28 (by kernel_rfl) rfl (by kernel_rfl) (by simp) ?_)
  simp
theorem T_null : T Try.prog 30 [] (Val.av ⟨0, 0, ⟨#[]⟩⟩) := by
  refine T.intro (TS.body mix Try.func30 (by kernel_rfl) rfl (by kernel_rfl) (by simp) ?_)
  simp
theorem T_live01 : T Try.prog 21 [] (.bool true) := by
  refine T.intro (TS.body mix Try.func21 (by kernel_rfl) rfl (by kernel_rfl) (by simp) ?_)
  simp
  refine TS.call' (T_int 2) (by simp) ?_
  simp
  refine TS.call' (T_int 10) (by simp) ?_
  simp
  refine TS.call' (T_cmp ⟨1, 2, ⟨#[]⟩⟩ ⟨1, 10, ⟨#[]⟩⟩) (by simp) ?_
  simp
  refine TS.call' (T_int 2) (by simp) ?_
  simp
  refine TS.call' T_null (by simp) ?_
  simp
  refine TS.call' (T_cmp ⟨1, 2, ⟨#[]⟩⟩ ⟨0, 0, ⟨#[]⟩⟩) (by simp) ?_
  simp [order, ints]
theorem T_long (a : Val) : T Try.prog 20 [a.av] (.bool (decide (300 < a.s.size))) := by
  refine T.intro (TS.body mix Try.func20 (by kernel_rfl) rfl (by kernel_rfl) (by simp) ?_)
  simp
  omega
theorem order_zero (a b : Val) : order a b = 0 ↔ a.k = b.k ∧ a.i = b.i ∧ a.s = b.s := by
  unfold order
  by_cases h : a.k = b.k <;> by_cases h' : a.i = b.i <;> simp [h, h', ints_zero, texts_zero, toList_inj]
theorem T_ValOrders (a b : Val) : T Try.prog 4 [a.av, b.av] (.bool true) := by
  refine T.intro (TS.body mix Try.func4 (by kernel_rfl) rfl (by kernel_rfl) (by simp) ?_)
  simp
  (first | refine TS.call' (T_long a) (by simp) ?_ | refine TDK.call' (T_long a) (by simp) ?_ | refine GTK.call (fun _ => ⟨T_long a, by simp⟩) ?_ | refine TS.call (T_long a) (by simp) ?_ | refine TDK.call (T_long a) (by simp) ?_); simp
  (first | refine TS.call' (T_long b) (by simp) ?_ | refine TDK.call' (T_long b) (by simp) ?_ | refine GTK.call (fun _ => ⟨T_long b, by simp⟩) ?_ | refine TS.call (T_long b) (by simp) ?_ | refine TDK.call (T_long b) (by simp) ?_); simp
  refine condK_of (fun h => ?_) (fun h => ?_)
  · (first | refine TS.call' (T_live01) (by simp) ?_ | refine TDK.call' (T_live01) (by simp) ?_ | refine GTK.call (fun _ => ⟨T_live01, by simp⟩) ?_ | refine TS.call (T_live01) (by simp) ?_ | refine TDK.call (T_live01) (by simp) ?_); simp
  simp at h
  (first | refine TS.call' (T_cmp a b) (by simp) ?_ | refine TDK.call' (T_cmp a b) (by simp) ?_ | refine GTK.call (fun _ => ⟨T_cmp a b, by simp⟩) ?_ | refine TS.call (T_cmp a b) (by simp) ?_ | refine TDK.call (T_cmp a b) (by simp) ?_); simp
  (first | refine TS.call' (T_rcmp a b (by omega)) (by simp) ?_ | refine TDK.call' (T_rcmp a b (by omega)) (by simp) ?_ | refine GTK.call (fun _ => ⟨T_rcmp a b (by omega), by simp⟩) ?_ | refine TS.call (T_rcmp a b (by omega)) (by simp) ?_ | refine TDK.call (T_rcmp a b (by omega)) (by simp) ?_); simp
  (first | refine TS.call' (T_order a b) (by simp) ?_ | refine TDK.call' (T_order a b) (by simp) ?_ | refine GTK.call (fun _ => ⟨T_order a b, by simp⟩) ?_ | refine TS.call (T_order a b) (by simp) ?_ | refine TDK.call (T_order a b) (by simp) ?_); simp
  (first | refine TS.call' (T_rorder a b (by omega)) (by simp) ?_ | refine TDK.call' (T_rorder a b (by omega)) (by simp) ?_ | refine GTK.call (fun _ => ⟨T_rorder a b (by omega), by simp⟩) ?_ | refine TS.call (T_rorder a b (by omega)) (by simp) ?_ | refine TDK.call (T_rorder a b (by omega)) (by simp) ?_); simp
  (first | refine TS.call' (T_same a b) (by simp) ?_ | refine TDK.call' (T_same a b) (by simp) ?_ | refine GTK.call (fun _ => ⟨T_same a b, by simp⟩) ?_ | refine TS.call (T_same a b) (by simp) ?_ | refine TDK.call (T_same a b) (by simp) ?_); simp
  (first | refine TS.call' (T_rsame a b) (by simp) ?_ | refine TDK.call' (T_rsame a b) (by simp) ?_ | refine GTK.call (fun _ => ⟨T_rsame a b, by simp⟩) ?_ | refine TS.call (T_rsame a b) (by simp) ?_ | refine TDK.call (T_rsame a b) (by simp) ?_); simp
  (first | refine TS.call' (T_order a b) (by simp) ?_ | refine TDK.call' (T_order a b) (by simp) ?_ | refine GTK.call (fun _ => ⟨T_order a b, by simp⟩) ?_ | refine TS.call (T_order a b) (by simp) ?_ | refine TDK.call (T_order a b) (by simp) ?_); simp
  (first | refine TS.call' (T_rsame a b) (by simp) ?_ | refine TDK.call' (T_rsame a b) (by simp) ?_ | refine GTK.call (fun _ => ⟨T_rsame a b, by simp⟩) ?_ | refine TS.call (T_rsame a b) (by simp) ?_ | refine TDK.call (T_rsame a b) (by simp) ?_); simp
  (first | refine TS.call' (T_live01) (by simp) ?_ | refine TDK.call' (T_live01) (by simp) ?_ | refine GTK.call (fun _ => ⟨T_live01, by simp⟩) ?_ | refine TS.call (T_live01) (by simp) ?_ | refine TDK.call (T_live01) (by simp) ?_); simp
  simp [order_zero]
theorem Val_in {cs : List AV} (h : Sh Try.prog 25 cs) : ∃ v : Val, mkAV true cs = v.av ∧ cs = [.int .i64 v.k, .int .i64 v.i, .str v.s] ∧ (-9223372036854775808 ≤ v.k ∧ v.k < 9223372036854775808) ∧ (-9223372036854775808 ≤ v.i ∧ v.i < 9223372036854775808) ∧ v.s.size ≤ reachBytes := by
  obtain ⟨hl, hf⟩ := h.struct_of ft_25
  obtain ⟨x, y, z, rfl⟩ : ∃ x y z, cs = [x, y, z] := by
    match cs, hl with
    | [x, y, z], _ => exact ⟨x, y, z, rfl⟩
  obtain ⟨k, h1, w1⟩ := (hf (3, 0, 1) (by simp)).int_of un_3
  obtain ⟨i, h2, w2⟩ := (hf (3, 1, 1) (by simp)).int_of un_3
  obtain ⟨s, h3, w3⟩ := (hf (9, 2, 1) (by simp)).str_of un_9
  simp at h1 h2 h3
  subst h1; subst h2; subst h3
  exact ⟨⟨k, i, s⟩, rfl, rfl, i64_wf w1, i64_wf w2, w3⟩
def rightV (v : Val) : Bool := if v.k = 0 then v.i == 0 && decide (v.s = ByteArray.empty) else if v.k = 1 then decide (v.s = ByteArray.empty) else if v.k = 2 then v.i == 0 && decide (v.s.size ≤ 65536) else false
theorem T_right (v : Val) : T Try.prog 31 [v.av] (.bool (rightV v)) := by
  refine T.intro (TS.body mix Try.func31 (by kernel_rfl) rfl (by kernel_rfl) (by simp) ?_)
  simp
  simp only [condK_iff, rightV]
  grind
theorem T_rright (v : Val) : T Try.prog 32 [v.av] (.bool (rightV v)) := by
  refine T.intro (TS.body mix Try.func32 (by kernel_rfl) rfl (by kernel_rfl) (by simp) ?_)
  simp
  simp only [condK_iff, rightV]
  grind
theorem T_isNull (v : Val) : T Try.prog 33 [v.av] (.bool (decide (v.k = 0))) := by
  refine T.intro (TS.body mix Try.func33 (by kernel_rfl) rfl (by kernel_rfl) (by simp) ?_)
  simp
theorem T_text (s : ByteArray) (hs : s.size ≤ 65536) : T Try.prog 29 [.str s] (Val.av ⟨2, 0, s⟩) := by
  refine T.intro (TS.body mix Try.func29 (by kernel_rfl) rfl (by kernel_rfl) (by simp) ?_)
  simp
  refine condK_of (fun h => ?_) (fun h => ?_)
  · simp at h; omega
  · simp
theorem T_ValMakes (v : Val) (n : Int) (s : ByteArray) : T Try.prog 5 [v.av, .int .i64 n, .str s] (.bool true) := by
  refine T.intro (TS.body mix Try.func5 (by kernel_rfl) rfl (by kernel_rfl) (by simp) ?_)
  simp
  (first | refine TS.call' (T_long v) (by simp) ?_ | refine TDK.call' (T_long v) (by simp) ?_ | refine GTK.call (fun _ => ⟨T_long v, by simp⟩) ?_ | refine TS.call (T_long v) (by simp) ?_ | refine TDK.call (T_long v) (by simp) ?_); simp
  refine condK_of (fun h => ?_) (fun h => ?_)
  · (first | refine TS.call' (T_live01) (by simp) ?_ | refine TDK.call' (T_live01) (by simp) ?_ | refine GTK.call (fun _ => ⟨T_live01, by simp⟩) ?_ | refine TS.call (T_live01) (by simp) ?_ | refine TDK.call (T_live01) (by simp) ?_); simp
  simp at h
  (first | refine TS.call' (T_int n) (by simp) ?_ | refine TDK.call' (T_int n) (by simp) ?_ | refine GTK.call (fun _ => ⟨T_int n, by simp⟩) ?_ | refine TS.call (T_int n) (by simp) ?_ | refine TDK.call (T_int n) (by simp) ?_); simp
  (first | refine TS.call' (T_rsame ⟨1, n, ⟨#[]⟩⟩ ⟨1, n, ⟨#[]⟩⟩) (by simp) ?_ | refine TDK.call' (T_rsame ⟨1, n, ⟨#[]⟩⟩ ⟨1, n, ⟨#[]⟩⟩) (by simp) ?_ | refine GTK.call (fun _ => ⟨T_rsame ⟨1, n, ⟨#[]⟩⟩ ⟨1, n, ⟨#[]⟩⟩, by simp⟩) ?_ | refine TS.call (T_rsame ⟨1, n, ⟨#[]⟩⟩ ⟨1, n, ⟨#[]⟩⟩) (by simp) ?_ | refine TDK.call (T_rsame ⟨1, n, ⟨#[]⟩⟩ ⟨1, n, ⟨#[]⟩⟩) (by simp) ?_); simp
  (first | refine TS.call' (T_text s (by omega)) (by simp) ?_ | refine TDK.call' (T_text s (by omega)) (by simp) ?_ | refine GTK.call (fun _ => ⟨T_text s (by omega), by simp⟩) ?_ | refine TS.call (T_text s (by omega)) (by simp) ?_ | refine TDK.call (T_text s (by omega)) (by simp) ?_); simp
  (first | refine TS.call' (T_rsame ⟨2, 0, s⟩ ⟨2, 0, s⟩) (by simp) ?_ | refine TDK.call' (T_rsame ⟨2, 0, s⟩ ⟨2, 0, s⟩) (by simp) ?_ | refine GTK.call (fun _ => ⟨T_rsame ⟨2, 0, s⟩ ⟨2, 0, s⟩, by simp⟩) ?_ | refine TS.call (T_rsame ⟨2, 0, s⟩ ⟨2, 0, s⟩) (by simp) ?_ | refine TDK.call (T_rsame ⟨2, 0, s⟩ ⟨2, 0, s⟩) (by simp) ?_); simp
  (first | refine TS.call' (T_null) (by simp) ?_ | refine TDK.call' (T_null) (by simp) ?_ | refine GTK.call (fun _ => ⟨T_null, by simp⟩) ?_ | refine TS.call (T_null) (by simp) ?_ | refine TDK.call (T_null) (by simp) ?_); simp
  (first | refine TS.call' (T_rsame ⟨0, 0, ⟨#[]⟩⟩ ⟨0, 0, ⟨#[]⟩⟩) (by simp) ?_ | refine TDK.call' (T_rsame ⟨0, 0, ⟨#[]⟩⟩ ⟨0, 0, ⟨#[]⟩⟩) (by simp) ?_ | refine GTK.call (fun _ => ⟨T_rsame ⟨0, 0, ⟨#[]⟩⟩ ⟨0, 0, ⟨#[]⟩⟩, by simp⟩) ?_ | refine TS.call (T_rsame ⟨0, 0, ⟨#[]⟩⟩ ⟨0, 0, ⟨#[]⟩⟩) (by simp) ?_ | refine TDK.call (T_rsame ⟨0, 0, ⟨#[]⟩⟩ ⟨0, 0, ⟨#[]⟩⟩) (by simp) ?_); simp
  (first | refine TS.call' (T_right v) (by simp) ?_ | refine TDK.call' (T_right v) (by simp) ?_ | refine GTK.call (fun _ => ⟨T_right v, by simp⟩) ?_ | refine TS.call (T_right v) (by simp) ?_ | refine TDK.call (T_right v) (by simp) ?_); simp
  (first | refine TS.call' (T_rright v) (by simp) ?_ | refine TDK.call' (T_rright v) (by simp) ?_ | refine GTK.call (fun _ => ⟨T_rright v, by simp⟩) ?_ | refine TS.call (T_rright v) (by simp) ?_ | refine TDK.call (T_rright v) (by simp) ?_); simp
  (first | refine TS.call' (T_isNull v) (by simp) ?_ | refine TDK.call' (T_isNull v) (by simp) ?_ | refine GTK.call (fun _ => ⟨T_isNull v, by simp⟩) ?_ | refine TS.call (T_isNull v) (by simp) ?_ | refine TDK.call (T_isNull v) (by simp) ?_); simp
  (first | refine TS.call' (T_text s (by omega)) (by simp) ?_ | refine TDK.call' (T_text s (by omega)) (by simp) ?_ | refine GTK.call (fun _ => ⟨T_text s (by omega), by simp⟩) ?_ | refine TS.call (T_text s (by omega)) (by simp) ?_ | refine TDK.call (T_text s (by omega)) (by simp) ?_); simp
  (first | refine TS.call' (T_right ⟨2, 0, s⟩) (by simp) ?_ | refine TDK.call' (T_right ⟨2, 0, s⟩) (by simp) ?_ | refine GTK.call (fun _ => ⟨T_right ⟨2, 0, s⟩, by simp⟩) ?_ | refine TS.call (T_right ⟨2, 0, s⟩) (by simp) ?_ | refine TDK.call (T_right ⟨2, 0, s⟩) (by simp) ?_); simp
  (first | refine TS.call' (T_live01) (by simp) ?_ | refine TDK.call' (T_live01) (by simp) ?_ | refine GTK.call (fun _ => ⟨T_live01, by simp⟩) ?_ | refine TS.call (T_live01) (by simp) ?_ | refine TDK.call (T_live01) (by simp) ?_); simp
  simp [rightV]
  omega
theorem S_ValMakes {xs : List AV} (h : ShA Try.prog [25, 3, 9] xs) : T Try.prog 5 xs (.bool true) := by
  obtain ⟨y, r, rfl, h1, h⟩ := h.cons_of ag_25
  obtain ⟨z, r, rfl, h2, h⟩ := h.cons_of ag_3
  obtain ⟨u, r, rfl, h3, h⟩ := h.cons_of ag_9
  obtain rfl := h.nil_of
  obtain ⟨a, e, _⟩ := Val_in h1
  obtain ⟨n, rfl, _⟩ := h2.int_of un_3
  obtain ⟨s, rfl, _⟩ := h3.str_of un_9
  rw [e]
  exact T_ValMakes a n s
theorem S_ValOrders {xs : List AV} (h : ShA Try.prog [25, 25] xs) : T Try.prog 4 xs (.bool true) := by
  obtain ⟨y, r, rfl, h1, h⟩ := h.cons_of ag_25
  obtain ⟨z, r, rfl, h2, h⟩ := h.cons_of ag_25
  obtain rfl := h.nil_of
  obtain ⟨a, e, _⟩ := Val_in h1
  obtain ⟨b, e', _⟩ := Val_in h2
  rw [e, e']
  exact T_ValOrders a b
end Go.Proofs.Ytgmhmdmfnmlhmaa.PL
