/- A slice of one thing, some times over. -/
import Derived.Test.YtahpoodcmeoabaaFArith
import Derived.Test.YtahpoodcmeoabaaFLib
namespace Go.Proofs.Ytahpoodcmeoabaa.PL
open Go.Proofs
set_option linter.unusedVariables false
set_option linter.unusedSimpArgs false
theorem T_mulS (x y : Nat) (h : x * y < 18446744073709551616) (hx : x < 18446744073709551616) (hy : y < 18446744073709551616) : T Try.prog 157 [.int .u64 x, .int .u64 y] (.tup [.int .u64 0, .int .u64 (x * y : Nat)]) := by
  have k := T_mul64 x y hx hy
  rw [Nat.div_eq_of_lt h, Nat.mod_eq_of_lt h] at k
  refine T.intro (TS.body mix Try.func157 (by kernel_rfl) rfl (by kernel_rfl) (by simp) ?_)
  simp
  refine TS.callW k (Dws.self (by simp)) ?_
  simp
abbrev bools' (l : List Bool) : List AV := avs AV.bool l
theorem repB_zero (n : Nat) : repeatA [AV.bool false] n = avs AV.bool (List.replicate n false) := by
  induction n with
  | zero => rfl
  | succ n ih => rw [repeatA, ih, List.replicate_succ]; rfl
set_option maxRecDepth 4000 in
theorem S_repeatB (H : List HO) (b : Bool) (n : Nat) (hn : n ≤ 1000000) : TS Try.prog 160 [.sl .exact [AV.bool b], .int .i64 n] H (pt (.mv H.length n 1 0 n) (H ++ [.row n 1 (avs AV.bool (List.replicate n b))])) := by
  have k := T_mulS 1 n (by omega) (by omega) (by omega)
  have h0 : ¬ (n : Int) < 0 := by omega
  have hw : IntKind.u64.wrap (n : Int) = n := by unfold IntKind.wrap; simp [IntKind.signed, IntKind.bits]; omega
  have h1 : ¬ (9223372036854775807 : Int) < n := by omega
  refine TS.body mix Try.func160 (by kernel_rfl) rfl (by kernel_rfl) (by simp) ?_
  simp [h0, hw]
  refine TS.callW k (Dws.self (by simp)) ?_
  have hi : IntKind.i64.wrap (n : Int) = n := wrap_i64 (by omega) (by omega)
  simp [h0, hw, h1, hi]
  refine ⟨by omega, ?_⟩
  refine vc_loop (fun j : Nat => n - j) (fun j e H' => e 7 = .mv H.length n 1 0 n ∧ e 8 = .int .i64 j ∧ j ≤ n ∧ (0 < n → 0 < j) ∧ H' = H ++ [.row n 1 (avs AV.bool (List.replicate j b ++ List.replicate (n - j) false))]) (min 1 n) ?_ ?_
  · simp
    refine ⟨by omega, by omega, ?_⟩
    rw [repB_zero]
    rcases Nat.eq_zero_or_pos n with rfl | h
    · simp
    · obtain ⟨m, rfl⟩ : ∃ m, n = m + 1 := ⟨n - 1, by omega⟩
      have e1 : Nat.min 1 (m + 1) = 1 := by show min 1 (m + 1) = 1; omega
      have e2 : min 1 (m + 1) = 1 := by omega
      rw [e1, e2]
      simp [List.replicate_succ]
  rintro j e H' ⟨h7, h8, hj, hp, rfl⟩
  by_cases hlt : j < n
  · simp [h7, h8, hlt]
    have e0 : j.min (n - j) = min j (n - j) := rfl
    refine ⟨by omega, j + min j (n - j), by omega, ?_, by omega, by omega, ?_⟩
    · rw [e0, wrap_i64 (by omega) (by omega)]; omega
    · have e1 : List.drop (j + min j (n - j)) (List.replicate j b ++ List.replicate (n - j) false) = List.replicate (n - (j + min j (n - j))) false := by
        rw [List.drop_append, List.drop_of_length_le (by simp), List.nil_append, List.length_replicate, List.drop_replicate]
        congr 1
        omega
      rw [e1]
  · have : j = n := by omega
    subst this
    simp [h7, h8]
theorem repI_zero (n : Nat) : repeatA [(AV.int .i64) 0] n = avs (AV.int .i64) (List.replicate n 0) := by
  induction n with
  | zero => rfl
  | succ n ih => rw [repeatA, ih, List.replicate_succ]; rfl
set_option maxRecDepth 4000 in
theorem S_repeatI (H : List HO) (b : Int) (n : Nat) (hn : n ≤ 1000000) : TS Try.prog 104 [.sl .exact [(AV.int .i64) b], .int .i64 n] H (pt (.mv H.length n 1 0 n) (H ++ [.row n 1 (avs (AV.int .i64) (List.replicate n b))])) := by
  have k := T_mulS 1 n (by omega) (by omega) (by omega)
  have h0 : ¬ (n : Int) < 0 := by omega
  have hw : IntKind.u64.wrap (n : Int) = n := by unfold IntKind.wrap; simp [IntKind.signed, IntKind.bits]; omega
  have h1 : ¬ (9223372036854775807 : Int) < n := by omega
  refine TS.body mix Try.func104 (by kernel_rfl) rfl (by kernel_rfl) (by simp) ?_
  simp [h0, hw]
  refine TS.callW k (Dws.self (by simp)) ?_
  have hi : IntKind.i64.wrap (n : Int) = n := wrap_i64 (by omega) (by omega)
  simp [h0, hw, h1, hi]
  refine ⟨by omega, ?_⟩
  refine vc_loop (fun j : Nat => n - j) (fun j e H' => e 7 = .mv H.length n 1 0 n ∧ e 8 = .int .i64 j ∧ j ≤ n ∧ (0 < n → 0 < j) ∧ H' = H ++ [.row n 1 (avs (AV.int .i64) (List.replicate j b ++ List.replicate (n - j) 0))]) (min 1 n) ?_ ?_
  · simp
    refine ⟨by omega, by omega, ?_⟩
    rw [repI_zero]
    rcases Nat.eq_zero_or_pos n with rfl | h
    · simp
    · obtain ⟨m, rfl⟩ : ∃ m, n = m + 1 := ⟨n - 1, by omega⟩
      have e1 : Nat.min 1 (m + 1) = 1 := by show min 1 (m + 1) = 1; omega
      have e2 : min 1 (m + 1) = 1 := by omega
      rw [e1, e2]
      simp [List.replicate_succ]
  rintro j e H' ⟨h7, h8, hj, hp, rfl⟩
  by_cases hlt : j < n
  · simp [h7, h8, hlt]
    have e0 : j.min (n - j) = min j (n - j) := rfl
    refine ⟨by omega, j + min j (n - j), by omega, ?_, by omega, by omega, ?_⟩
    · rw [e0, wrap_i64 (by omega) (by omega)]; omega
    · have e1 : List.drop (j + min j (n - j)) (List.replicate j b ++ List.replicate (n - j) 0) = List.replicate (n - (j + min j (n - j))) 0 := by
        rw [List.drop_append, List.drop_of_length_le (by simp), List.nil_append, List.length_replicate, List.drop_replicate]
        congr 1
        omega
      rw [e1]
  · have : j = n := by omega
    subst this
    simp [h7, h8]
/-- a list grown from nil on, by lists that may be empty; in all of the call's memory -/
def GrowM (sz : Nat) (H : List HO) (x : AV) (xs : List AV) : Prop := (xs = [] ∧ (x = .sl .nil [] ∨ x = .sl .exact [])) ∨ ∃ t, x = .sl (.tok t) xs ∧ H[t]? = some (.spare xs.length sz)
theorem GrowM.nil {sz : Nat} {H : List HO} : GrowM sz H (.sl .nil []) [] := .inl ⟨rfl, .inl rfl⟩
theorem GrowM.app0 {α : Type} {f : α → AV} {l m : List α} {sz n k : Nat} {H : List HO} (hl : l = []) (hn : n = m.length) (hk : k = H.length) : GrowM sz (H ++ appJ 0 n sz) (.sl (ownAt n k) (avs f m)) (avs f (l ++ m)) := by
  subst hl hn hk
  rcases Nat.eq_zero_or_pos m.length with h | h
  · have : m = [] := List.eq_nil_of_length_eq_zero h
    subst this
    exact .inl ⟨rfl, .inr rfl⟩
  · rw [ownAt_pos h, appJ_pos h]
    exact .inr ⟨H.length, rfl, by simp⟩
theorem GrowM.appT {α : Type} {f : α → AV} {l m : List α} {sz t n : Nat} {H : List HO} {o : HO} (ht : H[t]? = some o) (hn : n = l.length + m.length) : GrowM sz (H.set t (.spare n sz)) (.sl (.tok t) (avs f (l ++ m))) (avs f (l ++ m)) :=
  .inr ⟨t, rfl, by rw [List.getElem?_set_self (List.getElem?_eq_some_iff.1 ht).1]; simp [hn]⟩
theorem GrowM.app {sz : Nat} {H L : List HO} {x : AV} {xs : List AV} (h : GrowM sz H x xs) : GrowM sz (H ++ L) x xs := by
  rcases h with h | ⟨t, h, ht⟩
  · exact .inl h
  · exact .inr ⟨t, h, getElem?_app ht⟩
theorem GrowM.frz {α : Type} {f : α → AV} [Selfs f] {sz : Nat} {H H' : List HO} {x : AV} {l : List α} (h : GrowM sz H x (avs f l)) : Frz H' x (slA f l) := by
  rcases h with ⟨ge, hg⟩ | ⟨t, rfl, ht⟩
  · rw [avs_eq_nil] at ge
    subst ge
    rcases hg with rfl | rfl <;> exact Frz.slN (f := f) (l := [])
  · exact Frz.slN
end Go.Proofs.Ytahpoodcmeoabaa.PL
