/- RowsTwo: keys of rows. -/
import Derived.Test.YtjplcdeaedflpaaDoorFRows2
import Derived.Test.YtjplcdeaedflpaaDoorFOrd
import Derived.Test.YtjplcdeaedflpaaDoorLay
import Derived.Lib.AppendIntMem
import Derived.Lib.ItoaLen
namespace Go.Proofs.YtjplcdeaedflpaaDoor.PL
open Go.Proofs
set_option linter.unusedVariables false
set_option linter.unusedSimpArgs false
def numB (n : Nat) : ByteArray := ⟨(Lib.decDigits n).toArray⟩
theorem T_itoaN (n : Nat) (h : n < 9223372036854775808) : T Tryd.prog 60 [.int .i64 n] (.str (numB n)) := by
  intro I w vs hg hi hv
  cases hv with
  | cons h1 t =>
  cases t
  cases h1
  refine .inl ⟨⟨_, Tryd.func60, by kernel_rfl, by kernel_rfl⟩, (Tryd.internal_strconv_Itoa n (by omega) (by omega) w hg).mono ?_⟩
  rintro e w' ⟨rfl, k, os, rfl⟩
  rw [Lib.itoa_nonneg]
  exact ⟨I, _, rfl, fun _ _ _ h => h, fun _ _ _ h => .inl h, .str _, Go.Lib.below_grow _ _ (Nat.le_refl _) _ _⟩
theorem T_itoa (n : Nat) (h : n < 9223372036854775808) : T Tryd.prog 52 [.int .i64 n] (.str (numB n)) := by
  have k := T_itoaN n h
  refine T.intro (TS.body mix Tryd.func52 (by kernel_rfl) rfl (by kernel_rfl) (by simp) ?_)
  simp
  refine TS.callW k (Dws.self (by simp)) ?_
  simp
theorem digit_cut : ∀ k : Nat, k < 10 → (ByteArray.extract ⟨#[48, 49, 50, 51, 52, 53, 54, 55, 56, 57]⟩ k (k + 1)) = (⟨#[UInt8.ofNat (48 + k)]⟩ : ByteArray) := by
  decide +kernel
theorem numB_small {n : Nat} (h : n < 10) : numB n = ⟨#[UInt8.ofNat (48 + n)]⟩ := by
  unfold numB; rw [Lib.decDigits, dif_pos h]
theorem numB_big {n : Nat} (h : ¬ n < 10) : numB n = numB (n / 10) ++ ⟨#[UInt8.ofNat (48 + n % 10)]⟩ := by
  unfold numB
  conv => lhs; rw [Lib.decDigits, dif_neg h]
  apply ByteArray.ext
  simp
theorem numB_size {n : Nat} (h : n < 18446744073709551616) : 1 ≤ (numB n).size ∧ (numB n).size ≤ 20 := by
  have h1 : (numB n).size = (Lib.decDigits n).length := by simp [numB, ByteArray.size]
  rw [h1, Lib.decDigits_length]
  exact ⟨Lib.nDigits_pos n, Lib.nDigits_le20 n h⟩

def itemV (v : Val) : ByteArray := numB (keyV v).size ++ ⟨#[58]⟩ ++ keyV v
def keyR : List Val → ByteArray
  | [] => ⟨#[]⟩
  | v :: r => itemV v ++ keyR r
theorem keyR_app : ∀ a b : List Val, keyR (a ++ b) = keyR a ++ keyR b
  | [], b => by simp [keyR]
  | v :: a, b => by simp only [List.cons_append, keyR, keyR_app a b, ByteArray.append_assoc]
theorem keyR_next {r : List Val} {i : Nat} (hi : i < r.length) : keyR (r.take (i + 1)) = keyR (r.take i) ++ itemV r[i] := by
  rw [take_next hi, keyR_app]
  congr 1
  simp [keyR]
theorem keyV_size (v : Val) : (keyV v).size ≤ v.s.size + 9 := by
  unfold keyV
  split
  · show 1 ≤ _; omega
  split
  · show 9 ≤ _; omega
  split
  · rw [ByteArray.size_append]; show 1 + _ ≤ _; omega
  · show 0 ≤ _; omega
theorem itemV_size {v : Val} (hv : v.s.size ≤ 2000) : (itemV v).size ≤ 2030 := by
  have h1 := keyV_size v
  have h2 := numB_size (n := (keyV v).size) (by omega)
  unfold itemV
  rw [ByteArray.size_append, ByteArray.size_append]
  have : ByteArray.size ⟨#[58]⟩ = 1 := rfl
  omega
theorem keyR_size : ∀ {r : List Val}, (∀ v, v ∈ r → v.s.size ≤ 2000) → (keyR r).size ≤ 2030 * r.length
  | [], _ => by simp [keyR]
  | v :: r, h => by
    have h1 := itemV_size (h v List.mem_cons_self)
    have h2 := keyR_size (r := r) fun x hx => h x (List.mem_cons_of_mem _ hx)
    simp only [keyR, ByteArray.size_append, List.length_cons]
    omega
def i64V (r : List Val) : Prop := ∀ v, v ∈ r → -9223372036854775808 ≤ v.i ∧ v.i < 9223372036854775808
theorem T_rowKey (r : List Val) (hl : r.length ≤ 40) (hi : i64V r) (hs : ∀ v, v ∈ r → v.s.size ≤ 2000) : T Tryd.prog 39 [rowA r] (.str (keyR r)) := by
  refine T.intro (TS.body mix Tryd.func39 (by kernel_rfl) rfl (by kernel_rfl) (by simp) ?_)
  simp
  refine vc_loop (fun i : Nat => r.length - i) (fun i e H => e 3 = .str (keyR (r.take i)) ∧ e 7 = rowA r ∧ e 8 = .int .i64 r.length ∧ e 9 = .int .i64 i ∧ i ≤ r.length) 0 ?_ ?_
  · simp [keyR]
  rintro i e H ⟨e3, e7, e8, e9, hil⟩
  by_cases hlt : i < r.length
  · have ew := wrap_next hlt (by omega)
    have hm := List.getElem_mem hlt
    have k1 := T_keyW r[i] (hi _ hm).1 (hi _ hm).2 (by have := hs _ hm; omega)
    have hz := keyV_size r[i]
    have hz2 := hs _ hm
    have k2 := T_itoa (keyV r[i]).size (by omega)
    have hn2 := numB_size (n := (keyV r[i]).size) (by omega)
    have hp : (keyR (r.take i)).size ≤ 2030 * 40 := Nat.le_trans (keyR_size fun v hv => hs v (List.mem_of_mem_take hv)) (by rw [List.length_take]; omega)
    have h58 : ByteArray.size ⟨#[58]⟩ = 1 := rfl
    have hnx := keyR_next hlt
    simp [e3, e7, e8, e9, hlt]
    refine TS.callW k1 (Dws.self (by simp)) ?_
    simp [e3, e7, e8, e9, hlt]
    refine TS.callW k2 (Dws.self (by simp)) ?_
    simp [e3, e7, e8, e9, hlt]
    rw [h58]
    exact ⟨by omega, by omega, by omega, i + 1, by omega, by rw [hnx]; simp only [itemV, ByteArray.append_assoc], ew, by omega⟩
  · have : i = r.length := by omega
    subst this
    simp [e3, e7, e8, e9]

instance decVal : DecidableEq Val := fun a b => if h : a.k = b.k ∧ a.i = b.i ∧ a.s = b.s then isTrue (by cases a; cases b; simp_all) else isFalse (by rintro rfl; simp at h)

theorem T_rrowSame (a b : List Val) (ha : a.length < 4611686018427387904) (hb : b.length < 4611686018427387904) : T Tryd.prog 11 [rowA a, rowA b] (.bool (decide (a = b))) := by
  refine T.intro (TS.body mix Tryd.func11 (by kernel_rfl) rfl (by kernel_rfl) (by simp) ?_)
  simp
  by_cases hl : a.length = b.length
  · simp [hl]
    refine vc_loop (fun i : Nat => a.length - i) (fun i e H => e 0 = rowA a ∧ e 1 = rowA b ∧ e 5 = .int .i64 i ∧ i ≤ a.length ∧ a.take i = b.take i) 0 ?_ ?_
    · simp
    rintro i e H ⟨e0, e1, e5, hi, heq⟩
    by_cases hlt : i < a.length
    · have hlt2 : i < b.length := by omega
      have ew := wrap_next hlt (by omega)
      simp [e0, e1, e5, hlt, hlt2]
      (first | refine TS.call' (T_rsame a[i] b[i]) (by simp) ?_ | refine TDK.call' (T_rsame a[i] b[i]) (by simp) ?_ | refine GTK.call (fun _ => ⟨T_rsame a[i] b[i], by simp⟩) ?_ | refine TS.call (T_rsame a[i] b[i]) (by simp) ?_ | refine TDK.call (T_rsame a[i] b[i]) (by simp) ?_); simp
      refine condK_of (fun c => ?_) (fun c => ?_)
      · simp at c
        have hne : ¬ a = b := by
          rintro rfl
          simp at c
        simp [hne]
      · simp at c
        have heq2 : a[i] = b[i] := by
          cases hx : a[i]; cases hy : b[i]
          rw [hx, hy] at c
          simpa using c
        simp [e0, e1, e5, hlt, hlt2]
        exact ⟨i + 1, by omega, ew, by omega, by rw [take_next hlt, take_next hlt2, heq, heq2]⟩
    · have : i = a.length := by omega
      subst this
      have hab : a = b := by rwa [List.take_of_length_le (Nat.le_refl _), List.take_of_length_le (by omega)] at heq
      simp [e0, e1, e5, hab]
  · have hl2 : ¬ (a.length : Int) = b.length := by omega
    have hne : ¬ a = b := fun h => hl (by rw [h])
    simp [hl, hl2, hne]
def orderR : List Val → List Val → Int
  | [], [] => 0
  | [], _ :: _ => -1
  | _ :: _, [] => 1
  | a :: a', b :: b' => if order a b = 0 then orderR a' b' else order a b
theorem orderR_drop {a b : List Val} : ∀ {i : Nat} (h : i < a.length) (h2 : i < b.length), orderR (a.drop i) (b.drop i) = if order a[i] b[i] = 0 then orderR (a.drop (i + 1)) (b.drop (i + 1)) else order a[i] b[i] := by
  intro i h h2
  rw [List.drop_eq_getElem_cons h, List.drop_eq_getElem_cons h2, orderR]
theorem orderR_short {a b : List Val} (h : a.length ≤ b.length) (i : Nat) (hi : i = a.length) : orderR (a.drop i) (b.drop i) = if a.length < b.length then -1 else 0 := by
  subst hi
  rw [List.drop_length]
  cases hb : b.drop a.length with
  | nil => rw [List.drop_eq_nil_iff] at hb; rw [if_neg (by omega)]; rfl
  | cons x xs => rw [if_pos (by have := congrArg List.length hb; simp at this; omega)]; rfl
theorem orderR_long {a b : List Val} (h : b.length < a.length) : orderR (a.drop b.length) (b.drop b.length) = 1 := by
  rw [List.drop_length]
  cases ha : a.drop b.length with
  | nil => rw [List.drop_eq_nil_iff] at ha; omega
  | cons x xs => rfl


theorem dd_mem : ∀ (n : Nat) (c : UInt8), c ∈ Lib.decDigits n → c ≠ 58 := by
  intro n
  induction n using Nat.strongRecOn with
  | _ n ih =>
  intro c hc
  rw [Lib.decDigits] at hc
  split at hc
  · rename_i h
    simp only [List.mem_singleton] at hc
    subst hc
    have : ∀ k : Nat, k < 10 → UInt8.ofNat (48 + k) ≠ 58 := by decide
    exact this n h
  · rw [List.mem_append] at hc
    rcases hc with hc | hc
    · exact ih (n / 10) (by omega) c hc
    · simp only [List.mem_singleton] at hc
      subst hc
      have : ∀ k : Nat, k < 10 → UInt8.ofNat (48 + k) ≠ 58 := by decide
      exact this (n % 10) (Nat.mod_lt _ (by decide))
theorem dd_inj : ∀ (n m : Nat), Lib.decDigits n = Lib.decDigits m → n = m := by
  have hd : ∀ k : Nat, k < 10 → ∀ l : Nat, l < 10 → UInt8.ofNat (48 + k) = UInt8.ofNat (48 + l) → k = l := by decide
  have hp : ∀ k, 1 ≤ (Lib.decDigits k).length := fun k => by rw [Lib.decDigits_length]; exact Lib.nDigits_pos k
  intro n
  induction n using Nat.strongRecOn with
  | _ n ih =>
  intro m h
  rw [Lib.decDigits, Lib.decDigits.eq_def m] at h
  split at h <;> rename_i hn <;> split at h <;> rename_i hm
  · simp only [List.cons.injEq, and_true] at h
    exact hd n hn m hm h
  · have h2 := congrArg List.length h
    have := hp (m / 10)
    simp only [List.length_append, List.length_cons, List.length_nil] at h2
    omega
  · have h2 := congrArg List.length h
    have := hp (n / 10)
    simp only [List.length_append, List.length_cons, List.length_nil] at h2
    omega
  · obtain ⟨h1, h2⟩ := List.append_inj' h rfl
    have e1 := ih (n / 10) (by omega) (m / 10) h1
    simp only [List.cons.injEq, and_true] at h2
    have e2 := hd (n % 10) (Nat.mod_lt _ (by decide)) (m % 10) (Nat.mod_lt _ (by decide)) h2
    omega
theorem split58 : ∀ (a b x y : List UInt8), (∀ c, c ∈ a → c ≠ 58) → (∀ c, c ∈ b → c ≠ 58) → a ++ 58 :: x = b ++ 58 :: y → a = b ∧ x = y
  | [], [], x, y, _, _, h => by simpa using h
  | [], c :: b, x, y, _, hb, h => by
    simp only [List.nil_append, List.cons_append, List.cons.injEq] at h
    exact absurd h.1.symm (hb c List.mem_cons_self)
  | c :: a, [], x, y, ha, _, h => by
    simp only [List.nil_append, List.cons_append, List.cons.injEq] at h
    exact absurd h.1 (ha c List.mem_cons_self)
  | c :: a, d :: b, x, y, ha, hb, h => by
    simp only [List.cons_append, List.cons.injEq] at h
    obtain ⟨e1, e2⟩ := split58 a b x y (fun c hc => ha c (List.mem_cons_of_mem _ hc)) (fun c hc => hb c (List.mem_cons_of_mem _ hc)) h.2
    exact ⟨by rw [h.1, e1], e2⟩
theorem itemV_list (v : Val) : (itemV v).data.toList = Lib.decDigits (keyV v).size ++ 58 :: (keyV v).data.toList := by
  unfold itemV numB
  simp
theorem itemV_inj {v w : Val} {x y : ByteArray} (h : itemV v ++ x = itemV w ++ y) : keyV v = keyV w ∧ x = y := by
  have h1 := congrArg (fun b : ByteArray => b.data.toList) h
  simp only [ByteArray.data_append, Array.toList_append, itemV_list, List.append_assoc, List.cons_append] at h1
  obtain ⟨e1, e2⟩ := split58 _ _ _ _ (dd_mem _) (dd_mem _) h1
  have e3 := dd_inj _ _ e1
  obtain ⟨e4, e5⟩ := List.append_inj e2 (show (keyV v).data.toList.length = (keyV w).data.toList.length by rw [Array.length_toList, Array.length_toList]; exact e3)
  exact ⟨ByteArray.ext (Array.toList_inj.1 e4), ByteArray.ext (Array.toList_inj.1 e5)⟩
theorem itemV_nz (v : Val) (x : ByteArray) : ¬ ByteArray.empty = itemV v ++ x := by
  intro h
  have h1 := congrArg (fun b : ByteArray => b.data.toList.length) h
  simp only [ByteArray.data_append, Array.toList_append, itemV_list, List.length_append, List.length_cons] at h1
  have : (ByteArray.empty).data.toList.length = 0 := rfl
  omega
theorem keyR_inj : ∀ {a b : List Val}, i64V a → i64V b → (∀ v, v ∈ a → rightV v = true) → (∀ v, v ∈ b → rightV v = true) → keyR a = keyR b → a = b
  | [], [], _, _, _, _, _ => rfl
  | [], w :: b, _, _, _, _, h => absurd h (itemV_nz w _)
  | v :: a, [], _, _, _, _, h => absurd h.symm (itemV_nz v _)
  | v :: a, w :: b, ia, ib, ra, rb, h => by
    obtain ⟨e1, e2⟩ := itemV_inj h
    have e3 := keyR_inj (fun x hx => ia x (List.mem_cons_of_mem _ hx)) (fun x hx => ib x (List.mem_cons_of_mem _ hx)) (fun x hx => ra x (List.mem_cons_of_mem _ hx)) (fun x hx => rb x (List.mem_cons_of_mem _ hx)) e2
    have e4 := (keys_same (ia v List.mem_cons_self) (ib w List.mem_cons_self) (ra v List.mem_cons_self) (rb w List.mem_cons_self)).1 e1
    have e5 : v = w := by
      obtain ⟨q1, q2, q3⟩ := e4
      cases v; cases w
      simp only at q1 q2 q3
      subst q1; subst q2; subst q3; rfl
    rw [e5, e3]


end Go.Proofs.YtjplcdeaedflpaaDoor.PL
