/- What signs between values tell. -/
import Derived.Test.YtjplcdeaedflpaaDoorFLogic2
import Derived.Test.YtjplcdeaedflpaaDoorFOrd
namespace Go.Proofs.YtjplcdeaedflpaaDoor.PL
open Go.Proofs
set_option linter.unusedVariables false
set_option linter.unusedSimpArgs false
def alike (a b : Val) : Prop := a.k = b.k ∧ (a.k = 1 ∨ a.k = 2)
instance (a b : Val) : Decidable (alike a b) := by unfold alike; infer_instance
theorem alike_swap {a b : Val} : alike b a ↔ alike a b := by unfold alike; grind
def eqT (a b : Val) : Int := if alike a b then (if order a b = 0 then 1 else 0) else 2
def lessT (a b : Val) : Int := if alike a b then (if order a b < 0 then 1 else 0) else 2
def testT (op : Int) (a b : Val) : Int :=
  if alike a b then
    (if op = 1 then if order a b = 0 then 1 else 0 else if op = 2 then if order a b = 0 then 0 else 1 else if op = 3 then if order a b < 0 then 1 else 0
    else if op = 4 then if order a b ≤ 0 then 1 else 0 else if op = 5 then if 0 < order a b then 1 else 0 else if op = 6 then if 0 ≤ order a b then 1 else 0 else 2) else 2
theorem T_eq1 (n : Int) : T Tryd.prog 62 [.int .i64 n] (.bool (decide (n = 0))) := by
  refine T.intro (TS.body mix Tryd.func62 (by kernel_rfl) rfl (by kernel_rfl) (by simp) ?_)
  simp

theorem T_cmp' (a b : Val) : T Tryd.prog 75 [a.av, b.av] (.tup [.int .i64 (if alike a b then order a b else 0), .bool (decide (alike a b))]) := by
  have := T_cmp a b
  unfold alike
  exact this
theorem T_lcmp {f : FuncId} {p : Int → Bool} (hp : ∀ n, T Tryd.prog f [.int .i64 n] (.bool (p n))) (a b : Val) : T Tryd.prog 61 [a.av, b.av, .fn (.func f) [] []] (.int .i64 (if alike a b then (if p (order a b) then 1 else 0) else 2)) := by
  refine T.intro (TS.body mix Tryd.func61 (by kernel_rfl) rfl (by kernel_rfl) (by simp) ?_)
  simp
  (first | refine TS.call' (T_cmp' a b) (by simp) ?_ | refine TDK.call' (T_cmp' a b) (by simp) ?_ | refine GTK.call (fun _ => ⟨T_cmp' a b, by simp⟩) ?_ | refine TS.call (T_cmp' a b) (by simp) ?_ | refine TDK.call (T_cmp' a b) (by simp) ?_); simp
  by_cases h : alike a b
  · simp [h]
    (first | refine TS.call' (hp (order a b)) (by simp) ?_ | refine TDK.call' (hp (order a b)) (by simp) ?_ | refine GTK.call (fun _ => ⟨hp (order a b), by simp⟩) ?_ | refine TS.call (hp (order a b)) (by simp) ?_ | refine TDK.call (hp (order a b)) (by simp) ?_); simp
    (first | refine TS.call' (T_lof (p (order a b))) (by simp) ?_ | refine TDK.call' (T_lof (p (order a b))) (by simp) ?_ | refine GTK.call (fun _ => ⟨T_lof (p (order a b)), by simp⟩) ?_ | refine TS.call (T_lof (p (order a b))) (by simp) ?_ | refine TDK.call (T_lof (p (order a b))) (by simp) ?_); simp
  · simp [h]
theorem T_leq (a b : Val) : T Tryd.prog 55 [a.av, b.av] (.int .i64 (eqT a b)) := by
  refine T.intro (TS.body mix Tryd.func55 (by kernel_rfl) rfl (by kernel_rfl) (by simp) ?_)
  simp
  (first | refine TS.call' (T_lcmp T_eq1 a b) (by simp) ?_ | refine TDK.call' (T_lcmp T_eq1 a b) (by simp) ?_ | refine GTK.call (fun _ => ⟨T_lcmp T_eq1 a b, by simp⟩) ?_ | refine TS.call (T_lcmp T_eq1 a b) (by simp) ?_ | refine TDK.call (T_lcmp T_eq1 a b) (by simp) ?_); simp
  simp [eqT]





end Go.Proofs.YtjplcdeaedflpaaDoor.PL
