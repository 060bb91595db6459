/- What sums of numbers tell. -/
import Derived.Test.YtgmhmdmfnmlhmaaFArith
namespace Go.Proofs.Ytgmhmdmfnmlhmaa.PL
open Go.Proofs
set_option linter.unusedVariables false
set_option linter.unusedSimpArgs false
theorem and32i (a : Int) (h : isI a) : IntKind.i64.wrap (((a % 18446744073709551616).toNat &&& 4294967295 : Nat) : Int) = a % 4294967296 := by
  have e2 : (a % 18446744073709551616).toNat &&& 4294967295 = (a % 18446744073709551616).toNat % 4294967296 := Nat.and_two_pow_sub_one_eq_mod _ 32
  rw [e2, wrapI]
  omega
theorem quo32 (a : Int) : (a - a % 4294967296).tdiv 4294967296 = a / 4294967296 := by
  have : a - a % 4294967296 = 4294967296 * (a / 4294967296) := by omega
  rw [this]
  exact Int.mul_tdiv_cancel_left _ (by decide)
theorem sum_bound : ∀ (l : List Int), (∀ x, x ∈ l → isI x) → -(9223372036854775808 * (l.length : Int)) ≤ l.sum ∧ l.sum ≤ 9223372036854775808 * (l.length : Int)
  | [], _ => by simp
  | a :: l, h => by
    have h1 := h a (List.mem_cons_self ..)
    have h2 := sum_bound l fun x hx => h x (List.mem_cons_of_mem _ hx)
    unfold isI at h1
    simp only [List.sum_cons, List.length_cons]
    omega
theorem sum_next {l : List Int} {i : Nat} (h : i < l.length) : (l.take (i + 1)).sum = (l.take i).sum + l[i] := by
  rw [take_next h, List.sum_append]; simp
theorem T_rsum (l : List Int) (hl : ∀ x, x ∈ l → isI x) (hn : l.length ≤ 1000) : T Try.prog 56 [.sl .no (ints' l)] (.agg [.int .i64 (l.sum / 4294967296), .int .i64 (l.sum % 4294967296)]) := by
  refine T.intro (TS.body mix Try.func56 (by kernel_rfl) rfl (by kernel_rfl) (by simp) ?_)
  simp
  refine vc_loop (fun i : Nat => l.length - i) (fun i e H => e 0 = .sl .no (ints' l) ∧ e 2 = .ptr 0 0 ∧ e 3 = .ptr 1 0 ∧ e 4 = .int .i64 i ∧ i ≤ l.length ∧ H = [.box [.int .i64 0, .int .i64 0], .box [.int .i64 ((l.take i).sum / 4294967296), .int .i64 ((l.take i).sum % 4294967296)]]) 0 ?_ ?_
  · simp
  rintro i e H ⟨h0, h2, h3, h4, hi, rfl⟩
  by_cases h : i < l.length
  · have hx := hl l[i] (List.getElem_mem h)
    have hb := sum_bound (l.take i) fun x hx => hl x (List.mem_of_mem_take hx)
    rw [List.length_take, Nat.min_eq_left (by omega)] at hb
    have en := sum_next h
    generalize hS : (l.take i).sum = S at *
    have ha := and32i l[i] hx
    generalize hX : l[i] = X at *
    unfold isI at hx
    have w1 : IntKind.i64.wrap (X - X % 4294967296) = X - X % 4294967296 := wrap_i64 (by omega) (by omega)
    have w2 : IntKind.i64.wrap (X / 4294967296) = X / 4294967296 := wrap_i64 (by omega) (by omega)
    have w3 : IntKind.i64.wrap (S / 4294967296 + X / 4294967296) = S / 4294967296 + X / 4294967296 := wrap_i64 (by omega) (by omega)
    have w4 : IntKind.i64.wrap (S % 4294967296 + X % 4294967296) = S % 4294967296 + X % 4294967296 := wrap_i64 (by omega) (by omega)
    have q4 : (S % 4294967296 + X % 4294967296).tdiv 4294967296 = (S % 4294967296 + X % 4294967296) / 4294967296 := Int.tdiv_eq_ediv_of_nonneg (by omega)
    have m4 : (S % 4294967296 + X % 4294967296).tmod 4294967296 = (S % 4294967296 + X % 4294967296) % 4294967296 := Int.tmod_eq_emod_of_nonneg (by omega)
    have w5 : IntKind.i64.wrap ((S % 4294967296 + X % 4294967296) / 4294967296) = (S % 4294967296 + X % 4294967296) / 4294967296 := wrap_i64 (by omega) (by omega)
    have w6 : IntKind.i64.wrap (S / 4294967296 + X / 4294967296 + (S % 4294967296 + X % 4294967296) / 4294967296) = S / 4294967296 + X / 4294967296 + (S % 4294967296 + X % 4294967296) / 4294967296 := wrap_i64 (by omega) (by omega)
    simp [h0, h2, h3, h4, h, hX, ha, w1, quo32, w2, w3, w4, q4, m4, w5, w6]
    exact ⟨i + 1, by omega, wrap_next h (by omega), by omega, by rw [en]; omega, by rw [en]; try omega⟩
  · have : i = l.length := by omega
    subst this
    simp [h0, h2, h3, h4]
theorem T_rtotal (x : Int) (h : -4611686018427387904 ≤ x / 4294967296 ∧ x / 4294967296 ≤ 4611686018427387904) : T Try.prog 55 [.agg [.int .i64 (x / 4294967296), .int .i64 (x % 4294967296)]] (.tup [.int .i64 (narN x), .bool (decide (isI x))]) := by
  refine T.intro (TS.body mix Try.func55 (by kernel_rfl) rfl (by kernel_rfl) (by simp) ?_)
  simp
  refine condK_of (fun h2 => ?_) (fun h2 => ?_)
  · simp at h2
    have : ¬ isI x := by unfold isI; omega
    simp [this, narN]
  · simp at h2
    have : isI x := by unfold isI; omega
    have h3 := this
    unfold isI at h3
    simp [this, narN]
    have w1 : IntKind.i64.wrap (x / 4294967296 * 4294967296) = x / 4294967296 * 4294967296 := wrap_i64 (by omega) (by omega)
    rw [w1, wrap_i64 (by omega) (by omega)]
    omega
def sumC (x : Int) (n : Int) : List AV := [.int .u64 (hi64 x), .int .u64 (lo64 x), .int .i64 n]
theorem drop_prev {l : List Int} {i : Nat} (h : i < l.length) : (l.drop i).sum = l[i] + (l.drop (i + 1)).sum := by
  rw [List.drop_eq_getElem_cons h, List.sum_cons]
theorem T_ArithSums (l m : List Int) (hl : ∀ x, x ∈ l → isI x) (hm : ∀ x, x ∈ m → isI x) (h1 : l.length < 4611686018427387904) (h2 : m.length < 4611686018427387904) : T Try.prog 10 [.sl .no (ints' l), .sl .no (ints' m)] (.bool true) := by
  refine T.intro (TS.body mix Try.func10 (by kernel_rfl) rfl (by kernel_rfl) (by simp) ?_)
  simp
  rw [wrap_i64 (by omega) (by omega)]
  refine condK_of (fun h => ?_) (fun h => ?_)
  · simp
    (first | refine TS.call' (T_live03) (by simp) ?_ | refine TDK.call' (T_live03) (by simp) ?_ | refine GTK.call (fun _ => ⟨T_live03, by simp⟩) ?_ | refine TS.call (T_live03) (by simp) ?_ | refine TDK.call (T_live03) (by simp) ?_); simp
  simp at h
  simp
  refine vc_loop (fun i : Nat => l.length - i) (fun i e H => e 0 = .sl .no (ints' l) ∧ e 1 = .sl .no (ints' m) ∧ e 5 = .ptr 0 0 ∧ e 6 = .ptr 1 0 ∧ e 7 = .ptr 2 0 ∧ e 8 = .int .i64 i ∧ i ≤ l.length ∧ H = [.box (sumC (l.take i).sum i), .box (sumC 0 0), .box (sumC (l.take i).sum i)]) 0 ?_ ?_
  · simp [sumC, hi64, lo64]
  rintro i e H ⟨g0, g1, g5, g6, g7, g8, hi, rfl⟩
  by_cases hlt : i < l.length
  · have hx := hl l[i] (List.getElem_mem hlt)
    have en := sum_next hlt
    simp [g0, g1, g5, g6, g7, g8, hlt, sumC]
    refine TDK.call' (T_aplus (l.take i).sum i l[i] hx) (by simp [sumA]) ?_
    simp [g0, g1, g5, g6, g7, g8, hlt, sumC, sumA]
    refine TDK.call' (T_aplus (l.take i).sum i l[i] hx) (by simp [sumA]) ?_
    simp [g0, g1, g5, g6, g7, g8, hlt, sumC, sumA]
    have ew := wrap_next hlt (by omega)
    exact ⟨i + 1, by omega, ew, by omega, by rw [en], by rw [en], ew⟩
  · have hil : i = l.length := by omega
    subst hil
    simp [g0, g1, g5, g6, g7, g8]
    refine vc_loop (fun r : Nat => r) (fun r e H => e 0 = .sl .no (ints' l) ∧ e 1 = .sl .no (ints' m) ∧ e 5 = .ptr 0 0 ∧ e 6 = .ptr 1 0 ∧ e 7 = .ptr 2 0 ∧ e 9 = .int .i64 ((r : Int) - 1) ∧ r ≤ m.length ∧
      H = [.box (sumC l.sum l.length), .box (sumC (m.drop r).sum (m.length - r : Nat)), .box (sumC (l.sum + (m.drop r).sum) (l.length + (m.length - r : Nat)))]) m.length ?_ ?_
    · have : IntKind.i64.wrap ((m.length : Int) - 1) = (m.length : Int) - 1 := wrap_i64 (by omega) (by omega)
      simp [g0, g1, g5, g6, g7, g8, this]
    clear g0 g1 g5 g6 g7 g8 e
    rintro r e H ⟨g0, g1, g5, g6, g7, g9, hr, rfl⟩
    cases r with
    | succ q =>
      have hq : q < m.length := by omega
      have hx := hm m[q] (List.getElem_mem hq)
      have en := drop_prev hq
      have g9' : e 9 = .int .i64 q := by rw [g9]; congr 1; omega
      have hk : m.length - q = m.length - (q + 1) + 1 := by omega
      simp [g0, g1, g5, g6, g7, g9', hq, sumC]
      refine TDK.call' (T_aplus (m.drop (q + 1)).sum (m.length - (q + 1) : Nat) m[q] hx) (by simp [sumA]) ?_
      simp [g0, g1, g5, g6, g7, g9', hq, sumC, sumA]
      refine TDK.call' (T_aplus (l.sum + (m.drop (q + 1)).sum) (l.length + (m.length - (q + 1) : Nat)) m[q] hx) (by simp [sumA]) ?_
      simp [g0, g1, g5, g6, g7, g9', hq, sumC, sumA]
      have w1 : IntKind.i64.wrap ((q : Int) - 1) = (q : Int) - 1 := wrap_i64 (by omega) (by omega)
      have w2 : IntKind.i64.wrap (((m.length - (q + 1) : Nat) : Int) + 1) = ((m.length - q : Nat) : Int) := by rw [wrap_i64 (by omega) (by omega)]; omega
      have w3 : IntKind.i64.wrap ((l.length : Int) + ((m.length - (q + 1) : Nat) : Int) + 1) = (l.length : Int) + ((m.length - q : Nat) : Int) := by rw [wrap_i64 (by omega) (by omega)]; omega
      rw [w1, w2, w3]
      have s1 : (m.drop q).sum = (m.drop (q + 1)).sum + m[q] := by omega
      have s2 : l.sum + (m.drop q).sum = l.sum + (m.drop (q + 1)).sum + m[q] := by omega
      exact ⟨q, by omega, rfl, by omega, ⟨by rw [s1], by rw [s1], rfl⟩, by rw [s2], by rw [s2], rfl⟩
    | zero =>
      have g9' : e 9 = .int .i64 (-1) := by rw [g9]; rfl
      have b1 := sum_bound l hl
      have b2 := sum_bound m hm
      have hL : (l ++ m).sum = l.sum + m.sum := List.sum_append
      simp [g0, g1, g5, g6, g7, g9', sumC]
      have hcomm : m.sum + l.sum = l.sum + m.sum := Int.add_comm _ _
      obtain ⟨S, hS⟩ : ∃ S, S = l.sum + m.sum := ⟨_, rfl⟩
      have hS2 : m.sum + l.sum = S := by omega
      have hR : T Try.prog 56 [.sl .no (ints' (l ++ m))] (.agg [.int .i64 (S / 4294967296), .int .i64 (S % 4294967296)]) := by
        have := T_rsum (l ++ m) (fun x hx => by rcases List.mem_append.1 hx with h | h; exact hl x h; exact hm x h) (by rw [List.length_append]; omega)
        rwa [hL, ← hS] at this
      have hT := T_rtotal S (by omega)
      have wlm : IntKind.i64.wrap ((l.length : Int) + m.length) = (l.length : Int) + m.length := wrap_i64 (by omega) (by omega)
      have wml : IntKind.i64.wrap ((m.length : Int) + l.length) = (l.length : Int) + m.length := by rw [wrap_i64 (by omega) (by omega)]; omega
      rw [← hS]
      by_cases el : l = []
      · rw [el, List.nil_append] at hR
        have el' : (l = []) = True := eq_true el
        by_cases em : m = []
        · rw [em] at hR
          have em' : (m = []) = True := eq_true em
          refine TS.call' (T_total S (l.length + m.length) (by omega) (by omega)) (by simp [sumA]) ?_
          simp [g0, g1, g5, g6, g7, g9', sumC]
          refine TS.call' (T_join m.sum l.sum m.length l.length) (by simp [sumA]) ?_
          simp [g0, g1, g5, g6, g7, g9', sumC, sumA]
          rw [hS2]
          refine TS.call' (T_total S _ (by omega) (by omega)) (by simp [sumA]) ?_
          simp [g0, g1, g5, g6, g7, g9', sumC, sumA, el', em']
          repeat (refine ⟨by omega, ?_⟩)
          refine TS.call hR (by simp) ?_
          simp [g0, g1, g5, g6, g7, g9', sumC, sumA]
          refine TS.call' hT (by simp) ?_
          simp [g0, g1, g5, g6, g7, g9', sumC, sumA, hcomm]
          by_cases hx : isI S
          · simp only [hx, if_true, decide_true]
            (first | refine TS.call' (T_code03 0) (by simp [g0, g1, g5, g6, g7]) ?_ | refine TDK.call' (T_code03 0) (by simp [g0, g1, g5, g6, g7]) ?_ | refine GTK.call (fun _ => ⟨T_code03 0, by simp [g0, g1, g5, g6, g7]⟩) ?_ | refine TS.call (T_code03 0) (by simp [g0, g1, g5, g6, g7]) ?_ | refine TDK.call (T_code03 0) (by simp [g0, g1, g5, g6, g7]) ?_); simp [g0, g1, g5, g6, g7]
            (first | refine TS.call' (T_code03 0) (by simp [g0, g1, g5, g6, g7]) ?_ | refine TDK.call' (T_code03 0) (by simp [g0, g1, g5, g6, g7]) ?_ | refine GTK.call (fun _ => ⟨T_code03 0, by simp [g0, g1, g5, g6, g7]⟩) ?_ | refine TS.call (T_code03 0) (by simp [g0, g1, g5, g6, g7]) ?_ | refine TDK.call (T_code03 0) (by simp [g0, g1, g5, g6, g7]) ?_); simp [g0, g1, g5, g6, g7]
            (first | refine TS.call' (T_code03 0) (by simp [g0, g1, g5, g6, g7, wlm, wml]) ?_ | refine TDK.call' (T_code03 0) (by simp [g0, g1, g5, g6, g7, wlm, wml]) ?_ | refine GTK.call (fun _ => ⟨T_code03 0, by simp [g0, g1, g5, g6, g7, wlm, wml]⟩) ?_ | refine TS.call (T_code03 0) (by simp [g0, g1, g5, g6, g7, wlm, wml]) ?_ | refine TDK.call (T_code03 0) (by simp [g0, g1, g5, g6, g7, wlm, wml]) ?_); simp [g0, g1, g5, g6, g7, wlm, wml]
            (first | refine TS.call' (T_live03) (by simp) ?_ | refine TDK.call' (T_live03) (by simp) ?_ | refine GTK.call (fun _ => ⟨T_live03, by simp⟩) ?_ | refine TS.call (T_live03) (by simp) ?_ | refine TDK.call (T_live03) (by simp) ?_); simp
          · simp only [hx, if_false, decide_false]
            (first | refine TS.call' (T_code03 5) (by simp [g0, g1, g5, g6, g7]) ?_ | refine TDK.call' (T_code03 5) (by simp [g0, g1, g5, g6, g7]) ?_ | refine GTK.call (fun _ => ⟨T_code03 5, by simp [g0, g1, g5, g6, g7]⟩) ?_ | refine TS.call (T_code03 5) (by simp [g0, g1, g5, g6, g7]) ?_ | refine TDK.call (T_code03 5) (by simp [g0, g1, g5, g6, g7]) ?_); simp [g0, g1, g5, g6, g7]
            (first | refine TS.call' (T_code03 5) (by simp [g0, g1, g5, g6, g7]) ?_ | refine TDK.call' (T_code03 5) (by simp [g0, g1, g5, g6, g7]) ?_ | refine GTK.call (fun _ => ⟨T_code03 5, by simp [g0, g1, g5, g6, g7]⟩) ?_ | refine TS.call (T_code03 5) (by simp [g0, g1, g5, g6, g7]) ?_ | refine TDK.call (T_code03 5) (by simp [g0, g1, g5, g6, g7]) ?_); simp [g0, g1, g5, g6, g7]
            (first | refine TS.call' (T_code03 5) (by simp [g0, g1, g5, g6, g7, wlm, wml]) ?_ | refine TDK.call' (T_code03 5) (by simp [g0, g1, g5, g6, g7, wlm, wml]) ?_ | refine GTK.call (fun _ => ⟨T_code03 5, by simp [g0, g1, g5, g6, g7, wlm, wml]⟩) ?_ | refine TS.call (T_code03 5) (by simp [g0, g1, g5, g6, g7, wlm, wml]) ?_ | refine TDK.call (T_code03 5) (by simp [g0, g1, g5, g6, g7, wlm, wml]) ?_); simp [g0, g1, g5, g6, g7, wlm, wml]
            (first | refine TS.call' (T_live03) (by simp) ?_ | refine TDK.call' (T_live03) (by simp) ?_ | refine GTK.call (fun _ => ⟨T_live03, by simp⟩) ?_ | refine TS.call (T_live03) (by simp) ?_ | refine TDK.call (T_live03) (by simp) ?_); simp
        · have em' : (m = []) = False := eq_false em
          refine TS.call' (T_total S (l.length + m.length) (by omega) (by omega)) (by simp [sumA]) ?_
          simp [g0, g1, g5, g6, g7, g9', sumC]
          refine TS.call' (T_join m.sum l.sum m.length l.length) (by simp [sumA]) ?_
          simp [g0, g1, g5, g6, g7, g9', sumC, sumA]
          rw [hS2]
          refine TS.call' (T_total S _ (by omega) (by omega)) (by simp [sumA]) ?_
          simp [g0, g1, g5, g6, g7, g9', sumC, sumA, el', em']
          repeat (refine ⟨by omega, ?_⟩)
          refine TS.call hR (by simp) ?_
          simp [g0, g1, g5, g6, g7, g9', sumC, sumA]
          refine TS.call' hT (by simp) ?_
          simp [g0, g1, g5, g6, g7, g9', sumC, sumA, hcomm]
          by_cases hx : isI S
          · simp only [hx, if_true, decide_true]
            (first | refine TS.call' (T_code03 0) (by simp [g0, g1, g5, g6, g7]) ?_ | refine TDK.call' (T_code03 0) (by simp [g0, g1, g5, g6, g7]) ?_ | refine GTK.call (fun _ => ⟨T_code03 0, by simp [g0, g1, g5, g6, g7]⟩) ?_ | refine TS.call (T_code03 0) (by simp [g0, g1, g5, g6, g7]) ?_ | refine TDK.call (T_code03 0) (by simp [g0, g1, g5, g6, g7]) ?_); simp [g0, g1, g5, g6, g7]
            (first | refine TS.call' (T_code03 0) (by simp [g0, g1, g5, g6, g7]) ?_ | refine TDK.call' (T_code03 0) (by simp [g0, g1, g5, g6, g7]) ?_ | refine GTK.call (fun _ => ⟨T_code03 0, by simp [g0, g1, g5, g6, g7]⟩) ?_ | refine TS.call (T_code03 0) (by simp [g0, g1, g5, g6, g7]) ?_ | refine TDK.call (T_code03 0) (by simp [g0, g1, g5, g6, g7]) ?_); simp [g0, g1, g5, g6, g7]
            (first | refine TS.call' (T_code03 0) (by simp [g0, g1, g5, g6, g7, wlm, wml]) ?_ | refine TDK.call' (T_code03 0) (by simp [g0, g1, g5, g6, g7, wlm, wml]) ?_ | refine GTK.call (fun _ => ⟨T_code03 0, by simp [g0, g1, g5, g6, g7, wlm, wml]⟩) ?_ | refine TS.call (T_code03 0) (by simp [g0, g1, g5, g6, g7, wlm, wml]) ?_ | refine TDK.call (T_code03 0) (by simp [g0, g1, g5, g6, g7, wlm, wml]) ?_); simp [g0, g1, g5, g6, g7, wlm, wml]
            (first | refine TS.call' (T_live03) (by simp) ?_ | refine TDK.call' (T_live03) (by simp) ?_ | refine GTK.call (fun _ => ⟨T_live03, by simp⟩) ?_ | refine TS.call (T_live03) (by simp) ?_ | refine TDK.call (T_live03) (by simp) ?_); simp
          · simp only [hx, if_false, decide_false]
            (first | refine TS.call' (T_code03 5) (by simp [g0, g1, g5, g6, g7]) ?_ | refine TDK.call' (T_code03 5) (by simp [g0, g1, g5, g6, g7]) ?_ | refine GTK.call (fun _ => ⟨T_code03 5, by simp [g0, g1, g5, g6, g7]⟩) ?_ | refine TS.call (T_code03 5) (by simp [g0, g1, g5, g6, g7]) ?_ | refine TDK.call (T_code03 5) (by simp [g0, g1, g5, g6, g7]) ?_); simp [g0, g1, g5, g6, g7]
            (first | refine TS.call' (T_code03 5) (by simp [g0, g1, g5, g6, g7]) ?_ | refine TDK.call' (T_code03 5) (by simp [g0, g1, g5, g6, g7]) ?_ | refine GTK.call (fun _ => ⟨T_code03 5, by simp [g0, g1, g5, g6, g7]⟩) ?_ | refine TS.call (T_code03 5) (by simp [g0, g1, g5, g6, g7]) ?_ | refine TDK.call (T_code03 5) (by simp [g0, g1, g5, g6, g7]) ?_); simp [g0, g1, g5, g6, g7]
            (first | refine TS.call' (T_code03 5) (by simp [g0, g1, g5, g6, g7, wlm, wml]) ?_ | refine TDK.call' (T_code03 5) (by simp [g0, g1, g5, g6, g7, wlm, wml]) ?_ | refine GTK.call (fun _ => ⟨T_code03 5, by simp [g0, g1, g5, g6, g7, wlm, wml]⟩) ?_ | refine TS.call (T_code03 5) (by simp [g0, g1, g5, g6, g7, wlm, wml]) ?_ | refine TDK.call (T_code03 5) (by simp [g0, g1, g5, g6, g7, wlm, wml]) ?_); simp [g0, g1, g5, g6, g7, wlm, wml]
            (first | refine TS.call' (T_live03) (by simp) ?_ | refine TDK.call' (T_live03) (by simp) ?_ | refine GTK.call (fun _ => ⟨T_live03, by simp⟩) ?_ | refine TS.call (T_live03) (by simp) ?_ | refine TDK.call (T_live03) (by simp) ?_); simp
      · have el' : (l = []) = False := eq_false el
        by_cases em : m = []
        · have em' : (m = []) = True := eq_true em
          refine TS.call' (T_total S (l.length + m.length) (by omega) (by omega)) (by simp [sumA]) ?_
          simp [g0, g1, g5, g6, g7, g9', sumC]
          refine TS.call' (T_join m.sum l.sum m.length l.length) (by simp [sumA]) ?_
          simp [g0, g1, g5, g6, g7, g9', sumC, sumA]
          rw [hS2]
          refine TS.call' (T_total S _ (by omega) (by omega)) (by simp [sumA]) ?_
          simp [g0, g1, g5, g6, g7, g9', sumC, sumA, el', em']
          repeat (refine ⟨by omega, ?_⟩)
          refine TS.call hR (by simp) ?_
          simp [g0, g1, g5, g6, g7, g9', sumC, sumA]
          refine TS.call' hT (by simp) ?_
          simp [g0, g1, g5, g6, g7, g9', sumC, sumA, hcomm]
          by_cases hx : isI S
          · simp only [hx, if_true, decide_true]
            (first | refine TS.call' (T_code03 0) (by simp [g0, g1, g5, g6, g7]) ?_ | refine TDK.call' (T_code03 0) (by simp [g0, g1, g5, g6, g7]) ?_ | refine GTK.call (fun _ => ⟨T_code03 0, by simp [g0, g1, g5, g6, g7]⟩) ?_ | refine TS.call (T_code03 0) (by simp [g0, g1, g5, g6, g7]) ?_ | refine TDK.call (T_code03 0) (by simp [g0, g1, g5, g6, g7]) ?_); simp [g0, g1, g5, g6, g7]
            (first | refine TS.call' (T_code03 0) (by simp [g0, g1, g5, g6, g7]) ?_ | refine TDK.call' (T_code03 0) (by simp [g0, g1, g5, g6, g7]) ?_ | refine GTK.call (fun _ => ⟨T_code03 0, by simp [g0, g1, g5, g6, g7]⟩) ?_ | refine TS.call (T_code03 0) (by simp [g0, g1, g5, g6, g7]) ?_ | refine TDK.call (T_code03 0) (by simp [g0, g1, g5, g6, g7]) ?_); simp [g0, g1, g5, g6, g7]
            (first | refine TS.call' (T_code03 0) (by simp [g0, g1, g5, g6, g7, wlm, wml]) ?_ | refine TDK.call' (T_code03 0) (by simp [g0, g1, g5, g6, g7, wlm, wml]) ?_ | refine GTK.call (fun _ => ⟨T_code03 0, by simp [g0, g1, g5, g6, g7, wlm, wml]⟩) ?_ | refine TS.call (T_code03 0) (by simp [g0, g1, g5, g6, g7, wlm, wml]) ?_ | refine TDK.call (T_code03 0) (by simp [g0, g1, g5, g6, g7, wlm, wml]) ?_); simp [g0, g1, g5, g6, g7, wlm, wml]
            (first | refine TS.call' (T_live03) (by simp) ?_ | refine TDK.call' (T_live03) (by simp) ?_ | refine GTK.call (fun _ => ⟨T_live03, by simp⟩) ?_ | refine TS.call (T_live03) (by simp) ?_ | refine TDK.call (T_live03) (by simp) ?_); simp
          · simp only [hx, if_false, decide_false]
            (first | refine TS.call' (T_code03 5) (by simp [g0, g1, g5, g6, g7]) ?_ | refine TDK.call' (T_code03 5) (by simp [g0, g1, g5, g6, g7]) ?_ | refine GTK.call (fun _ => ⟨T_code03 5, by simp [g0, g1, g5, g6, g7]⟩) ?_ | refine TS.call (T_code03 5) (by simp [g0, g1, g5, g6, g7]) ?_ | refine TDK.call (T_code03 5) (by simp [g0, g1, g5, g6, g7]) ?_); simp [g0, g1, g5, g6, g7]
            (first | refine TS.call' (T_code03 5) (by simp [g0, g1, g5, g6, g7]) ?_ | refine TDK.call' (T_code03 5) (by simp [g0, g1, g5, g6, g7]) ?_ | refine GTK.call (fun _ => ⟨T_code03 5, by simp [g0, g1, g5, g6, g7]⟩) ?_ | refine TS.call (T_code03 5) (by simp [g0, g1, g5, g6, g7]) ?_ | refine TDK.call (T_code03 5) (by simp [g0, g1, g5, g6, g7]) ?_); simp [g0, g1, g5, g6, g7]
            (first | refine TS.call' (T_code03 5) (by simp [g0, g1, g5, g6, g7, wlm, wml]) ?_ | refine TDK.call' (T_code03 5) (by simp [g0, g1, g5, g6, g7, wlm, wml]) ?_ | refine GTK.call (fun _ => ⟨T_code03 5, by simp [g0, g1, g5, g6, g7, wlm, wml]⟩) ?_ | refine TS.call (T_code03 5) (by simp [g0, g1, g5, g6, g7, wlm, wml]) ?_ | refine TDK.call (T_code03 5) (by simp [g0, g1, g5, g6, g7, wlm, wml]) ?_); simp [g0, g1, g5, g6, g7, wlm, wml]
            (first | refine TS.call' (T_live03) (by simp) ?_ | refine TDK.call' (T_live03) (by simp) ?_ | refine GTK.call (fun _ => ⟨T_live03, by simp⟩) ?_ | refine TS.call (T_live03) (by simp) ?_ | refine TDK.call (T_live03) (by simp) ?_); simp
        · have em' : (m = []) = False := eq_false em
          refine TS.call' (T_total S (l.length + m.length) (by omega) (by omega)) (by simp [sumA]) ?_
          simp [g0, g1, g5, g6, g7, g9', sumC]
          refine TS.call' (T_join m.sum l.sum m.length l.length) (by simp [sumA]) ?_
          simp [g0, g1, g5, g6, g7, g9', sumC, sumA]
          rw [hS2]
          refine TS.call' (T_total S _ (by omega) (by omega)) (by simp [sumA]) ?_
          simp [g0, g1, g5, g6, g7, g9', sumC, sumA, el', em']
          repeat (refine ⟨by omega, ?_⟩)
          refine TS.call hR (by simp) ?_
          simp [g0, g1, g5, g6, g7, g9', sumC, sumA]
          refine TS.call' hT (by simp) ?_
          simp [g0, g1, g5, g6, g7, g9', sumC, sumA, hcomm]
          by_cases hx : isI S
          · simp only [hx, if_true, decide_true]
            (first | refine TS.call' (T_code03 0) (by simp [g0, g1, g5, g6, g7]) ?_ | refine TDK.call' (T_code03 0) (by simp [g0, g1, g5, g6, g7]) ?_ | refine GTK.call (fun _ => ⟨T_code03 0, by simp [g0, g1, g5, g6, g7]⟩) ?_ | refine TS.call (T_code03 0) (by simp [g0, g1, g5, g6, g7]) ?_ | refine TDK.call (T_code03 0) (by simp [g0, g1, g5, g6, g7]) ?_); simp [g0, g1, g5, g6, g7]
            (first | refine TS.call' (T_code03 0) (by simp [g0, g1, g5, g6, g7]) ?_ | refine TDK.call' (T_code03 0) (by simp [g0, g1, g5, g6, g7]) ?_ | refine GTK.call (fun _ => ⟨T_code03 0, by simp [g0, g1, g5, g6, g7]⟩) ?_ | refine TS.call (T_code03 0) (by simp [g0, g1, g5, g6, g7]) ?_ | refine TDK.call (T_code03 0) (by simp [g0, g1, g5, g6, g7]) ?_); simp [g0, g1, g5, g6, g7]
            (first | refine TS.call' (T_code03 0) (by simp [g0, g1, g5, g6, g7, wlm, wml]) ?_ | refine TDK.call' (T_code03 0) (by simp [g0, g1, g5, g6, g7, wlm, wml]) ?_ | refine GTK.call (fun _ => ⟨T_code03 0, by simp [g0, g1, g5, g6, g7, wlm, wml]⟩) ?_ | refine TS.call (T_code03 0) (by simp [g0, g1, g5, g6, g7, wlm, wml]) ?_ | refine TDK.call (T_code03 0) (by simp [g0, g1, g5, g6, g7, wlm, wml]) ?_); simp [g0, g1, g5, g6, g7, wlm, wml]
            (first | refine TS.call' (T_live03) (by simp) ?_ | refine TDK.call' (T_live03) (by simp) ?_ | refine GTK.call (fun _ => ⟨T_live03, by simp⟩) ?_ | refine TS.call (T_live03) (by simp) ?_ | refine TDK.call (T_live03) (by simp) ?_); simp
          · simp only [hx, if_false, decide_false]
            (first | refine TS.call' (T_code03 5) (by simp [g0, g1, g5, g6, g7]) ?_ | refine TDK.call' (T_code03 5) (by simp [g0, g1, g5, g6, g7]) ?_ | refine GTK.call (fun _ => ⟨T_code03 5, by simp [g0, g1, g5, g6, g7]⟩) ?_ | refine TS.call (T_code03 5) (by simp [g0, g1, g5, g6, g7]) ?_ | refine TDK.call (T_code03 5) (by simp [g0, g1, g5, g6, g7]) ?_); simp [g0, g1, g5, g6, g7]
            (first | refine TS.call' (T_code03 5) (by simp [g0, g1, g5, g6, g7]) ?_ | refine TDK.call' (T_code03 5) (by simp [g0, g1, g5, g6, g7]) ?_ | refine GTK.call (fun _ => ⟨T_code03 5, by simp [g0, g1, g5, g6, g7]⟩) ?_ | refine TS.call (T_code03 5) (by simp [g0, g1, g5, g6, g7]) ?_ | refine TDK.call (T_code03 5) (by simp [g0, g1, g5, g6, g7]) ?_); simp [g0, g1, g5, g6, g7]
            (first | refine TS.call' (T_code03 5) (by simp [g0, g1, g5, g6, g7, wlm, wml]) ?_ | refine TDK.call' (T_code03 5) (by simp [g0, g1, g5, g6, g7, wlm, wml]) ?_ | refine GTK.call (fun _ => ⟨T_code03 5, by simp [g0, g1, g5, g6, g7, wlm, wml]⟩) ?_ | refine TS.call (T_code03 5) (by simp [g0, g1, g5, g6, g7, wlm, wml]) ?_ | refine TDK.call (T_code03 5) (by simp [g0, g1, g5, g6, g7, wlm, wml]) ?_); simp [g0, g1, g5, g6, g7, wlm, wml]
            (first | refine TS.call' (T_live03) (by simp) ?_ | refine TDK.call' (T_live03) (by simp) ?_ | refine GTK.call (fun _ => ⟨T_live03, by simp⟩) ?_ | refine TS.call (T_live03) (by simp) ?_ | refine TDK.call (T_live03) (by simp) ?_); simp
theorem ints_in {ys : List (List AV)} (hy : ∀ y, y ∈ ys → Sh Try.prog 3 y) : ∃ l : List Int, ys.map (mkAV false) = ints' l ∧ l.length = ys.length ∧ ∀ x, x ∈ l → isI x :=
  list_in (f := AV.int .i64) (g := mkAV false) (Q := isI) (fun y hy' => by
    obtain ⟨n, rfl, hn⟩ := (hy y hy').int_of un_3
    exact ⟨n, rfl, i64_wf hn⟩)
theorem S_ArithSums {xs : List AV} (h : ShA Try.prog [37, 37] xs) : T Try.prog 10 xs (.bool true) := by
  obtain ⟨y, r, rfl, h1, h⟩ := h.cons_of ag_37
  obtain ⟨z, r, rfl, h2, h⟩ := h.cons_of ag_37
  obtain rfl := h.nil_of
  obtain ⟨ys, rfl, hy, b1⟩ := h1.sl_of un_37 ag_3
  obtain ⟨zs, rfl, hz, b2⟩ := h2.sl_of un_37 ag_3
  obtain ⟨l, e, el, hl⟩ := ints_in hy
  obtain ⟨m, e', em, hm⟩ := ints_in hz
  have hb : Try.prog.bytesOf 3 = 8 := by kernel_rfl
  have hr : reachBytes ≤ 1152921504606846976 := by decide
  rw [hb] at b1 b2
  simp only [mkAV, Bool.false_eq_true, if_false, List.headD_cons]
  rw [show ys.map (mkAV false) = _ from e, show zs.map (mkAV false) = _ from e']
  exact T_ArithSums l m hl hm (by omega) (by omega)
end Go.Proofs.Ytgmhmdmfnmlhmaa.PL
