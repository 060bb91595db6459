/- Ears. -/
import Derived.Test.YtahpoodcmeoabaaFGyo
import Derived.Test.YtahpoodcmeoabaaFGraph5
namespace Go.Proofs.Ytahpoodcmeoabaa.PL
open Go.Proofs
set_option linter.unusedVariables false
set_option linter.unusedSimpArgs false
theorem T_there (left : List Bool) (i : Nat) (hl : left.length < 4611686018427387904) : T Try.prog 117 [.sl .no (bools' left), .int .i64 i] (.bool (left.getD i false)) := by
  refine T.intro (TS.body mix Try.func117 (by kernel_rfl) rfl (by kernel_rfl) (by simp) ?_)
  by_cases h : i < left.length
  · simp [h]
  · have : left.length ≤ i := by omega
    simp [h, this]
/-- what the first n share with one, of those that are left -/
def outP (h : List (List Int)) (left : List Bool) (i : Nat) : Nat → List Int
  | 0 => []
  | k + 1 => outP h left i k ++ if k ≠ i ∧ left.getD k false = true then sharedI (h.getD i []) (h.getD k []) else []
theorem sharedI_len (a b : List Int) : (sharedI a b).length ≤ a.length := by
  unfold sharedI
  exact Nat.le_trans (List.length_filter_le _ _) (setI_len a)
theorem outP_len {h : List (List Int)} {left : List Bool} {i n : Nat} (hs : (h.getD i []).length ≤ n) : ∀ k, (outP h left i k).length ≤ k * n
  | 0 => by simp [outP]
  | k + 1 => by
    rw [outP, List.length_append, Nat.add_mul]
    have h1 := outP_len (left := left) hs k
    have h2 := sharedI_len (h.getD i []) (h.getD k [])
    split
    · omega
    · simp; omega
structure HsOk (h : List (List Int)) : Prop where
  n : h.length ≤ 1000
  s : ∀ l, l ∈ h → l.length ≤ 1000
theorem T_outside (h : List (List Int)) (left : List Bool) (i : Nat) (hh : HsOk h) (hi : i < h.length) (hl : left.length < 4611686018427387904) : T Try.prog 118 [.sl .no (lists' h), .sl .no (bools' left), .int .i64 i] (.sl .no (ints' (outP h left i h.length))) := by
  have hn := hh.n
  have hs := hh.s
  refine T.introF (TS.body mix Try.func118 (by kernel_rfl) rfl (by kernel_rfl) (by simp) ?_)
  simp
  refine vc_loop (fun k : Nat => h.length - k) (fun k e H => e 0 = .sl .no (lists' h) ∧ e 1 = .sl .no (bools' left) ∧ e 2 = .int .i64 i ∧ e 10 = .sl .no (lists' h) ∧ e 11 = .int .i64 h.length ∧ e 12 = .int .i64 k ∧ k ≤ h.length ∧ GrowM 1 H (e 7) (ints' (outP h left i k))) 0 ?_ ?_
  · simp [outP]
    exact GrowM.nil
  rintro k e H ⟨e0, e1, e2, e10, e11, e12, hk, hg⟩
  by_cases hlt : k < h.length
  · have ew := wrap_next hlt (by omega)
    have kt := T_there left k hl
    have ks := T_shared h[i] h[k] (by have := hs _ (List.getElem_mem hi); omega) (by have := hs _ (List.getElem_mem hlt); omega)
    have hol := outP_len (left := left) (i := i) (n := 1000) (h := h) (by have := hs _ (List.getElem_mem hi); simp [hi]; omega) k
    have hsl := sharedI_len h[i] h[k]
    have hil := hs _ (List.getElem_mem hi)
    have hnx : outP h left i (k + 1) = outP h left i k ++ if k ≠ i ∧ left.getD k false = true then sharedI h[i] h[k] else [] := by
      rw [outP]; simp [hi, hlt]
    simp [e0, e1, e2, e10, e11, e12, hlt]
    refine GTK.callW (fun _ => ⟨kt, Dws.self (by simp)⟩) ?_
    by_cases hc : k ≠ i ∧ left.getD k false = true
    · rw [if_pos hc] at hnx
      have hc1 : ¬ k = i := hc.1
      have hc2 : left[k]?.getD false = true := by simpa using hc.2
      have hc3 : ¬ (k : Int) = i := by omega
      simp [e0, e1, e2, e10, e11, e12, hlt, hc3, hc2, hi]
      refine TS.callW ks (Dws.self (by simp)) ?_
      rcases hg with ⟨ge, hg⟩ | ⟨t, hg, ht⟩
      · rw [avs_eq_nil] at ge
        have e7 : (e 7).ex = .sl .exact [] := by rcases hg with h | h <;> rw [h] <;> rfl
        simp [e0, e1, e2, e10, e11, e12, hlt, hc3, hc2, hi, e7]
        refine ⟨⟨by omega, by omega⟩, k + 1, by omega, ew, by omega, ?_⟩
        rw [hnx]
        exact GrowM.app0 ge rfl rfl
      · simp [e0, e1, e2, e10, e11, e12, hlt, hc3, hc2, hi, hg, ht]
        refine ⟨⟨by omega, by omega⟩, k + 1, by omega, ew, by omega, ?_⟩
        rw [hnx]
        exact GrowM.appT ht rfl
    · rw [if_neg hc, List.append_nil] at hnx
      have fin : GrowM 1 H (e 7) (ints' (outP h left i (k + 1))) := by rw [hnx]; exact hg
      by_cases hki : k = i
      · have hc3 : (k : Int) = i := by omega
        simp [e0, e1, e2, e10, e11, e12, hc3]
        rw [← hc3]
        exact ⟨k + 1, by omega, ew, by omega, fin⟩
      · have hc3 : ¬ (k : Int) = i := by omega
        have hc2 : left[k]?.getD false = false := by
          cases hq : left[k]?.getD false with
          | false => rfl
          | true => exact absurd ⟨hki, by simpa using hq⟩ hc
        simp [e0, e1, e2, e10, e11, e12, hc3, hc2]
        exact ⟨k + 1, by omega, ew, by omega, fin⟩
  · have : k = h.length := by omega
    subst this
    simp [e0, e1, e2, e10, e11, e12]
    exact hg.frz
def earQ (h : List (List Int)) (left : List Bool) (i p : Nat) : Bool := !decide (p = i) && (left.getD p false && withinI (outP h left i h.length) (h.getD p []))
def earF (h : List (List Int)) (left : List Bool) (i : Nat) : Option Nat := if left.getD i false = true then (List.range h.length).find? (earQ h left i) else none
/-- an ear: its parent -/
def earI (h : List (List Int)) (left : List Bool) (i : Int) : Option Nat := if 0 ≤ i ∧ i < h.length then earF h left i.toNat else none
theorem find_range {q : Nat → Bool} {n k : Nat} (hk : k < n) (hq : q k = true) (hno : ∀ j, j < k → q j = false) : (List.range n).find? q = some k := by
  rw [List.find?_range_eq_some]
  exact ⟨hq, by simpa using hk, fun j hj => by simp [hno j hj]⟩
theorem find_range_none {q : Nat → Bool} {n : Nat} (hno : ∀ j, j < n → q j = false) : (List.range n).find? q = none := by
  rw [List.find?_eq_none]
  intro x hx
  simp [hno x (by simpa using hx)]
theorem no_next {q : Nat → Bool} {k : Nat} (hno : ∀ j, j < k → q j = false) (h : q k = false) : ∀ j, j < k + 1 → q j = false := by
  intro j hj
  rcases Nat.lt_or_ge j k with h2 | h2
  · exact hno j h2
  · have : j = k := by omega
    subst this; exact h
theorem T_ear (h : List (List Int)) (left : List Bool) (i : Int) (hh : HsOk h) (hl : left.length < 4611686018427387904) : T Try.prog 47 [.sl .no (lists' h), .sl .no (bools' left), .int .i64 i] (.tup [.int .i64 ((earI h left i).getD 0 : Nat), .bool (earI h left i).isSome]) := by
  have hn := hh.n
  have hs := hh.s
  refine T.intro (TS.body mix Try.func47 (by kernel_rfl) rfl (by kernel_rfl) (by simp) ?_)
  by_cases c1 : i < 0
  · have : earI h left i = none := by unfold earI; rw [if_neg (by omega)]
    rw [this]
    simp [c1]
    refine GTK.callW (fun h => nomatch h) (ys := []) (r := .bool true) ?_
    simp
  by_cases c2 : (h.length : Int) ≤ i
  · have : earI h left i = none := by unfold earI; rw [if_neg (by omega)]
    rw [this]
    simp [c1, c2]
    refine GTK.callW (fun h => nomatch h) (ys := []) (r := .bool true) ?_
    simp
  obtain ⟨a, rfl⟩ : ∃ a : Nat, i = a := ⟨i.toNat, by omega⟩
  have ha : a < h.length := by omega
  have hna : ¬ h.length ≤ a := by omega
  have hn0 : ¬ (a : Int) < 0 := by omega
  have k1 := T_there left a hl
  have he : earI h left a = earF h left a := by unfold earI; rw [if_pos (by omega)]; rfl
  rw [he]
  cases hla : left.getD a false with
  | false =>
    rw [hla] at k1
    have : earF h left a = none := by unfold earF; rw [hla]; rfl
    rw [this]
    simp [hna, hn0]
    refine GTK.callW (fun _ => ⟨k1, Dws.self (by simp)⟩) ?_
    simp
  | true =>
    rw [hla] at k1
    have hef : earF h left a = (List.range h.length).find? (earQ h left a) := by unfold earF; rw [hla]; rfl
    rw [hef]
    have k2 := T_outside h left a hh ha hl
    have hol := outP_len (left := left) (i := a) (n := 1000) (h := h) (by have := hs _ (List.getElem_mem ha); simp [ha]; omega) h.length
    simp [hna, hn0]
    refine GTK.callW (fun _ => ⟨k1, Dws.self (by simp)⟩) ?_
    simp
    refine TS.callW k2 (Dws.self (by simp)) ?_
    obtain ⟨N, hN⟩ : ∃ N, N = outP h left a h.length := ⟨_, rfl⟩
    rw [← hN] at hol ⊢
    simp
    refine vc_loop (fun k : Nat => h.length - k) (fun k e H => e 1 = .sl .no (bools' left) ∧ e 2 = .int .i64 a ∧ e 8 = .sl .no (ints' N) ∧ e 29 = .sl .no (lists' h) ∧ e 30 = .int .i64 h.length ∧ e 31 = .int .i64 k ∧ k ≤ h.length ∧ ∀ j, j < k → earQ h left a j = false) 0 ?_ ?_
    · simp
    rintro k e H ⟨e1, e2, e8, e29, e30, e31, hk, hno⟩
    by_cases hlt : k < h.length
    · have ew := wrap_next hlt (by omega)
      have kt := T_there left k hl
      have kw := T_within N h[k] (by omega) (by have := hs _ (List.getElem_mem hlt); omega)
      have hq : earQ h left a k = (!decide (k = a) && (left.getD k false && withinI N h[k])) := by
        unfold earQ; rw [← hN]; simp [hlt]
      simp [e1, e2, e8, e29, e30, e31, hlt]
      refine GTK.callW (fun _ => ⟨kt, Dws.self (by simp)⟩) ?_
      by_cases c3 : k = a
      · have c4 : (k : Int) = a := by omega
        rw [decide_eq_true c3] at hq
        simp [e1, e2, e8, e29, e30, e31, hlt, c4]
        refine GTK.callW (fun h => nomatch h) (ys := []) (r := .bool true) ?_
        simp [e1, e2, e8, e29, e30, e31, hlt, c4]
        rw [← c4]
        exact ⟨k + 1, by omega, ew, by omega, no_next hno hq⟩
      have c4 : ¬ (k : Int) = a := by omega
      rw [decide_eq_false c3] at hq
      cases c5 : left.getD k false with
      | false =>
        have c6 : left[k]?.getD false = false := by simpa using c5
        rw [c5] at hq
        simp [e1, e2, e8, e29, e30, e31, hlt, c4, c6]
        refine GTK.callW (fun h => nomatch h) (ys := []) (r := .bool true) ?_
        simp [e1, e2, e8, e29, e30, e31, hlt, c4, c6]
        exact ⟨k + 1, by omega, ew, by omega, no_next hno hq⟩
      | true =>
        have c6 : left[k]?.getD false = true := by simpa using c5
        rw [c5] at hq
        simp [e1, e2, e8, e29, e30, e31, hlt, c4, c6]
        refine GTK.callW (fun _ => ⟨kw, Dws.self (by simp)⟩) ?_
        cases c7 : withinI N h[k] with
        | false =>
          rw [c7] at hq
          simp [e1, e2, e8, e29, e30, e31, hlt, c4, c6]
          exact ⟨k + 1, by omega, ew, by omega, no_next hno hq⟩
        | true =>
          rw [c7] at hq
          rw [find_range hlt hq hno]
          simp [e1, e2, e8, e29, e30, e31, hlt, c4, c6]
    · have : k = h.length := by omega
      subst this
      rw [find_range_none hno]
      simp [e1, e2, e8, e29, e30, e31]
end Go.Proofs.Ytahpoodcmeoabaa.PL
