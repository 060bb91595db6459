/- What signs between values tell. -/
import Derived.Test.YtgmhmdmfnmlhmaaFLogic2
import Derived.Test.YtgmhmdmfnmlhmaaFOrd
namespace Go.Proofs.Ytgmhmdmfnmlhmaa.PL
open Go.Proofs
set_option linter.unusedVariables false
set_option linter.unusedSimpArgs false
def alike (a b : Val) : Prop := a.k = b.k ∧ (a.k = 1 ∨ a.k = 2)
instance (a b : Val) : Decidable (alike a b) := by unfold alike; infer_instance
theorem alike_swap {a b : Val} : alike b a ↔ alike a b := by unfold alike; grind
def eqT (a b : Val) : Int := if alike a b then (if order a b = 0 then 1 else 0) else 2
def lessT (a b : Val) : Int := if alike a b then (if order a b < 0 then 1 else 0) else 2
def testT (op : Int) (a b : Val) : Int :=
  if alike a b then
    (if op = 1 then if order a b = 0 then 1 else 0 else if op = 2 then if order a b = 0 then 0 else 1 else if op = 3 then if order a b < 0 then 1 else 0
    else if op = 4 then if order a b ≤ 0 then 1 else 0 else if op = 5 then if 0 < order a b then 1 else 0 else if op = 6 then if 0 ≤ order a b then 1 else 0 else 2) else 2
theorem T_eq1 (n : Int) : T Try.prog 90 [.int .i64 n] (.bool (decide (n = 0))) := by
  refine T.intro (TS.body mix Try.func90 (by kernel_rfl) rfl (by kernel_rfl) (by simp) ?_)
  simp
theorem T_less1 (n : Int) : T Try.prog 91 [.int .i64 n] (.bool (decide (n < 0))) := by
  refine T.intro (TS.body mix Try.func91 (by kernel_rfl) rfl (by kernel_rfl) (by simp) ?_)
  simp
theorem T_cmp' (a b : Val) : T Try.prog 22 [a.av, b.av] (.tup [.int .i64 (if alike a b then order a b else 0), .bool (decide (alike a b))]) := by
  have := T_cmp a b
  unfold alike
  exact this
theorem T_lcmp {f : FuncId} {p : Int → Bool} (hp : ∀ n, T Try.prog f [.int .i64 n] (.bool (p n))) (a b : Val) : T Try.prog 89 [a.av, b.av, .fn (.func f) [] []] (.int .i64 (if alike a b then (if p (order a b) then 1 else 0) else 2)) := by
  refine T.intro (TS.body mix Try.func89 (by kernel_rfl) rfl (by kernel_rfl) (by simp) ?_)
  simp
  (first | refine TS.call' (T_cmp' a b) (by simp) ?_ | refine TDK.call' (T_cmp' a b) (by simp) ?_ | refine GTK.call (fun _ => ⟨T_cmp' a b, by simp⟩) ?_ | refine TS.call (T_cmp' a b) (by simp) ?_ | refine TDK.call (T_cmp' a b) (by simp) ?_); simp
  by_cases h : alike a b
  · simp [h]
    (first | refine TS.call' (hp (order a b)) (by simp) ?_ | refine TDK.call' (hp (order a b)) (by simp) ?_ | refine GTK.call (fun _ => ⟨hp (order a b), by simp⟩) ?_ | refine TS.call (hp (order a b)) (by simp) ?_ | refine TDK.call (hp (order a b)) (by simp) ?_); simp
    (first | refine TS.call' (T_lof (p (order a b))) (by simp) ?_ | refine TDK.call' (T_lof (p (order a b))) (by simp) ?_ | refine GTK.call (fun _ => ⟨T_lof (p (order a b)), by simp⟩) ?_ | refine TS.call (T_lof (p (order a b))) (by simp) ?_ | refine TDK.call (T_lof (p (order a b))) (by simp) ?_); simp
  · simp [h]
theorem T_leq (a b : Val) : T Try.prog 49 [a.av, b.av] (.int .i64 (eqT a b)) := by
  refine T.intro (TS.body mix Try.func49 (by kernel_rfl) rfl (by kernel_rfl) (by simp) ?_)
  simp
  (first | refine TS.call' (T_lcmp T_eq1 a b) (by simp) ?_ | refine TDK.call' (T_lcmp T_eq1 a b) (by simp) ?_ | refine GTK.call (fun _ => ⟨T_lcmp T_eq1 a b, by simp⟩) ?_ | refine TS.call (T_lcmp T_eq1 a b) (by simp) ?_ | refine TDK.call (T_lcmp T_eq1 a b) (by simp) ?_); simp
  simp [eqT]
theorem T_lless (a b : Val) : T Try.prog 50 [a.av, b.av] (.int .i64 (lessT a b)) := by
  refine T.intro (TS.body mix Try.func50 (by kernel_rfl) rfl (by kernel_rfl) (by simp) ?_)
  simp
  (first | refine TS.call' (T_lcmp T_less1 a b) (by simp) ?_ | refine TDK.call' (T_lcmp T_less1 a b) (by simp) ?_ | refine GTK.call (fun _ => ⟨T_lcmp T_less1 a b, by simp⟩) ?_ | refine TS.call (T_lcmp T_less1 a b) (by simp) ?_ | refine TDK.call (T_lcmp T_less1 a b) (by simp) ?_); simp
  simp [lessT]
theorem T_ltest (op : Int) (a b : Val) : T Try.prog 47 [.int .i64 op, a.av, b.av] (.int .i64 (testT op a b)) := by
  have ho := order_vals a b
  refine T.intro (TS.body mix Try.func47 (by kernel_rfl) rfl (by kernel_rfl) (by simp) ?_)
  simp
  refine condK_of (fun h1 => ?_) (fun h1 => ?_)
  · simp at h1; subst h1
    simp
    (first | refine TS.call' (T_leq a b) (by simp) ?_ | refine TDK.call' (T_leq a b) (by simp) ?_ | refine GTK.call (fun _ => ⟨T_leq a b, by simp⟩) ?_ | refine TS.call (T_leq a b) (by simp) ?_ | refine TDK.call (T_leq a b) (by simp) ?_); simp
    simp [eqT, testT]
  simp at h1; simp
  refine condK_of (fun h2 => ?_) (fun h2 => ?_)
  · simp at h2; subst h2
    simp
    (first | refine TS.call' (T_leq a b) (by simp) ?_ | refine TDK.call' (T_leq a b) (by simp) ?_ | refine GTK.call (fun _ => ⟨T_leq a b, by simp⟩) ?_ | refine TS.call (T_leq a b) (by simp) ?_ | refine TDK.call (T_leq a b) (by simp) ?_); simp
    (first | refine TS.call' (T_lnot (eqT a b)) (by simp) ?_ | refine TDK.call' (T_lnot (eqT a b)) (by simp) ?_ | refine GTK.call (fun _ => ⟨T_lnot (eqT a b), by simp⟩) ?_ | refine TS.call (T_lnot (eqT a b)) (by simp) ?_ | refine TDK.call (T_lnot (eqT a b)) (by simp) ?_); simp
    unfold eqT testT notT; grind
  simp at h2; simp
  refine condK_of (fun h3 => ?_) (fun h3 => ?_)
  · simp at h3; subst h3
    simp
    (first | refine TS.call' (T_lless a b) (by simp) ?_ | refine TDK.call' (T_lless a b) (by simp) ?_ | refine GTK.call (fun _ => ⟨T_lless a b, by simp⟩) ?_ | refine TS.call (T_lless a b) (by simp) ?_ | refine TDK.call (T_lless a b) (by simp) ?_); simp
    simp [lessT, testT]
  simp at h3; simp
  refine condK_of (fun h4 => ?_) (fun h4 => ?_)
  · simp at h4; subst h4
    simp
    (first | refine TS.call' (T_lless a b) (by simp) ?_ | refine TDK.call' (T_lless a b) (by simp) ?_ | refine GTK.call (fun _ => ⟨T_lless a b, by simp⟩) ?_ | refine TS.call (T_lless a b) (by simp) ?_ | refine TDK.call (T_lless a b) (by simp) ?_); simp
    (first | refine TS.call' (T_leq a b) (by simp) ?_ | refine TDK.call' (T_leq a b) (by simp) ?_ | refine GTK.call (fun _ => ⟨T_leq a b, by simp⟩) ?_ | refine TS.call (T_leq a b) (by simp) ?_ | refine TDK.call (T_leq a b) (by simp) ?_); simp
    (first | refine TS.call' (T_lor [lessT a b, eqT a b] (by show 2 < _; omega)) (by simp) ?_ | refine TDK.call' (T_lor [lessT a b, eqT a b] (by show 2 < _; omega)) (by simp) ?_ | refine GTK.call (fun _ => ⟨T_lor [lessT a b, eqT a b] (by show 2 < _; omega), by simp⟩) ?_ | refine TS.call (T_lor [lessT a b, eqT a b] (by show 2 < _; omega)) (by simp) ?_ | refine TDK.call (T_lor [lessT a b, eqT a b] (by show 2 < _; omega)) (by simp) ?_); simp
    unfold orT lessT eqT testT
    by_cases hal : alike a b
    · rcases ho with h | h | h <;> simp [hal, h, tru]
    · simp [hal, tru]
  simp at h4; simp
  refine condK_of (fun h5 => ?_) (fun h5 => ?_)
  · simp at h5; subst h5
    simp
    (first | refine TS.call' (T_lless b a) (by simp) ?_ | refine TDK.call' (T_lless b a) (by simp) ?_ | refine GTK.call (fun _ => ⟨T_lless b a, by simp⟩) ?_ | refine TS.call (T_lless b a) (by simp) ?_ | refine TDK.call (T_lless b a) (by simp) ?_); simp
    unfold lessT testT
    rw [order_swap a b]
    simp only [alike_swap]
    simp
  simp at h5; simp
  refine condK_of (fun h6 => ?_) (fun h6 => ?_)
  · simp at h6; subst h6
    simp
    (first | refine TS.call' (T_lless a b) (by simp) ?_ | refine TDK.call' (T_lless a b) (by simp) ?_ | refine GTK.call (fun _ => ⟨T_lless a b, by simp⟩) ?_ | refine TS.call (T_lless a b) (by simp) ?_ | refine TDK.call (T_lless a b) (by simp) ?_); simp
    (first | refine TS.call' (T_lnot (lessT a b)) (by simp) ?_ | refine TDK.call' (T_lnot (lessT a b)) (by simp) ?_ | refine GTK.call (fun _ => ⟨T_lnot (lessT a b), by simp⟩) ?_ | refine TS.call (T_lnot (lessT a b)) (by simp) ?_ | refine TDK.call (T_lnot (lessT a b)) (by simp) ?_); simp
    unfold lessT testT notT; grind
  simp at h6; simp
  simp [testT, h1, h2, h3, h4, h5, h6]
theorem T_rcmp' (a b : Val) (ha : a.s.size < 4611686018427387904) : T Try.prog 23 [a.av, b.av] (.tup [.int .i64 (if alike a b then order a b else 0), .bool (decide (alike a b))]) := by
  have := T_rcmp a b ha
  unfold alike
  exact this
theorem T_rtest (op : Int) (a b : Val) (ha : a.s.size < 4611686018427387904) : T Try.prog 48 [.int .i64 op, a.av, b.av] (.int .i64 (testT op a b)) := by
  have ho := order_vals a b
  refine T.intro (TS.body mix Try.func48 (by kernel_rfl) rfl (by kernel_rfl) (by simp) ?_)
  simp
  (first | refine TS.call' (T_rcmp' a b ha) (by simp) ?_ | refine TDK.call' (T_rcmp' a b ha) (by simp) ?_ | refine GTK.call (fun _ => ⟨T_rcmp' a b ha, by simp⟩) ?_ | refine TS.call (T_rcmp' a b ha) (by simp) ?_ | refine TDK.call (T_rcmp' a b ha) (by simp) ?_); simp
  by_cases hal : alike a b
  · simp [hal]
    refine condK_of (fun h => ?_) (fun h => ?_)
    · simp
      simp at h
      unfold testT
      grind
    simp at h
    have hop : op = 1 ∨ op = 2 ∨ op = 3 ∨ op = 4 ∨ op = 5 ∨ op = 6 := by omega
    rcases hop with rfl | rfl | rfl | rfl | rfl | rfl <;> rcases ho with ho | ho | ho <;> simp [ho, testT, hal]
  · simp [hal, testT]
theorem T_LogicTests (op : Int) (a b : Val) (ha : a.s.size ≤ reachBytes) (hb : b.s.size ≤ reachBytes) : T Try.prog 9 [.int .i64 op, a.av, b.av] (.bool true) := by
  refine T.intro (TS.body mix Try.func9 (by kernel_rfl) rfl (by kernel_rfl) (by simp) ?_)
  simp
  refine condK_of (fun h => ?_) (fun h => ?_)
  · simp
    (first | refine TS.call' (T_live02) (by simp) ?_ | refine TDK.call' (T_live02) (by simp) ?_ | refine GTK.call (fun _ => ⟨T_live02, by simp⟩) ?_ | refine TS.call (T_live02) (by simp) ?_ | refine TDK.call (T_live02) (by simp) ?_); simp
  have hr : reachBytes ≤ 1152921504606846976 := by decide
  simp at h
  simp
  rw [wrap_i64 (by omega) (by omega)] at h
  have ha : a.s.size < 4611686018427387904 := by omega
  have e1 : testT 1 a b = eqT a b := by simp [testT, eqT]
  have e3 : testT 3 a b = lessT a b := by simp [testT, lessT]
  (first | refine TS.call' (T_ltest op a b) (by simp) ?_ | refine TDK.call' (T_ltest op a b) (by simp) ?_ | refine GTK.call (fun _ => ⟨T_ltest op a b, by simp⟩) ?_ | refine TS.call (T_ltest op a b) (by simp) ?_ | refine TDK.call (T_ltest op a b) (by simp) ?_); simp
  (first | refine TS.call' (T_rtest op a b ha) (by simp) ?_ | refine TDK.call' (T_rtest op a b ha) (by simp) ?_ | refine GTK.call (fun _ => ⟨T_rtest op a b ha, by simp⟩) ?_ | refine TS.call (T_rtest op a b ha) (by simp) ?_ | refine TDK.call (T_rtest op a b ha) (by simp) ?_); simp
  (first | refine TS.call' (T_leq a b) (by simp) ?_ | refine TDK.call' (T_leq a b) (by simp) ?_ | refine GTK.call (fun _ => ⟨T_leq a b, by simp⟩) ?_ | refine TS.call (T_leq a b) (by simp) ?_ | refine TDK.call (T_leq a b) (by simp) ?_); simp
  (first | refine TS.call' (T_rtest 1 a b ha) (by simp [e1]) ?_ | refine TDK.call' (T_rtest 1 a b ha) (by simp [e1]) ?_ | refine GTK.call (fun _ => ⟨T_rtest 1 a b ha, by simp [e1]⟩) ?_ | refine TS.call (T_rtest 1 a b ha) (by simp [e1]) ?_ | refine TDK.call (T_rtest 1 a b ha) (by simp [e1]) ?_); simp [e1]
  (first | refine TS.call' (T_lless a b) (by simp) ?_ | refine TDK.call' (T_lless a b) (by simp) ?_ | refine GTK.call (fun _ => ⟨T_lless a b, by simp⟩) ?_ | refine TS.call (T_lless a b) (by simp) ?_ | refine TDK.call (T_lless a b) (by simp) ?_); simp
  (first | refine TS.call' (T_rtest 3 a b ha) (by simp [e3]) ?_ | refine TDK.call' (T_rtest 3 a b ha) (by simp [e3]) ?_ | refine GTK.call (fun _ => ⟨T_rtest 3 a b ha, by simp [e3]⟩) ?_ | refine TS.call (T_rtest 3 a b ha) (by simp [e3]) ?_ | refine TDK.call (T_rtest 3 a b ha) (by simp [e3]) ?_); simp [e3]
  (first | refine TS.call' (T_live02) (by simp) ?_ | refine TDK.call' (T_live02) (by simp) ?_ | refine GTK.call (fun _ => ⟨T_live02, by simp⟩) ?_ | refine TS.call (T_live02) (by simp) ?_ | refine TDK.call (T_live02) (by simp) ?_); simp
theorem S_LogicTests {xs : List AV} (h : ShA Try.prog [3, 25, 25] xs) : T Try.prog 9 xs (.bool true) := by
  obtain ⟨u, r, rfl, h0, h⟩ := h.cons_of ag_3
  obtain ⟨y, r, rfl, h1, h⟩ := h.cons_of ag_25
  obtain ⟨z, r, rfl, h2, h⟩ := h.cons_of ag_25
  obtain rfl := h.nil_of
  obtain ⟨op, rfl, _⟩ := h0.int_of un_3
  obtain ⟨a, e, _, _, _, ha⟩ := Val_in h1
  obtain ⟨b, e', _, _, _, hb⟩ := Val_in h2
  rw [e, e']
  exact T_LogicTests op a b ha hb
end Go.Proofs.Ytgmhmdmfnmlhmaa.PL
