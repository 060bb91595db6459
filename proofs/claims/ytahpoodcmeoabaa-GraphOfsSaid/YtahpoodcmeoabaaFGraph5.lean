/- GraphTwo. -/
import Derived.Test.YtahpoodcmeoabaaFGraph4
namespace Go.Proofs.Ytahpoodcmeoabaa.PL
open Go.Proofs
set_option linter.unusedVariables false
set_option linter.unusedSimpArgs false
theorem T_same21 (a b : List (List Int)) (ha : a.length < 4611686018427387904) (hs : ∀ l, l ∈ a → l.length < 4611686018427387904) : T Try.prog 41 [.sl .no (lists' a), .sl .no (lists' b)] (.bool (decide (a = b))) := by
  refine T.intro (TS.body mix Try.func41 (by kernel_rfl) rfl (by kernel_rfl) (by simp) ?_)
  simp
  by_cases hl : a.length = b.length
  · simp [hl]
    refine vc_loop (fun i : Nat => a.length - i) (fun i e H => e 0 = .sl .no (lists' a) ∧ e 1 = .sl .no (lists' b) ∧ e 5 = .int .i64 i ∧ i ≤ a.length ∧ (∀ j (h1 : j < a.length) (h2 : j < b.length), j < i → a[j] = b[j])) 0 ?_ ?_
    · simp
    rintro i e H ⟨h0, h1, h5, hi, hno⟩
    by_cases h : i < a.length
    · have hb : i < b.length := by omega
      have k1 := T_sameList21 a[i] b[i] (hs _ (List.getElem_mem h))
      simp [h0, h1, h5, h, hb]
      refine TDK.callW k1 (Dws.self (by simp)) ?_
      by_cases he : a[i] = b[i]
      · simp [h0, h1, h5, h, hb, he]
        refine ⟨i + 1, by omega, wrap_next h (by omega), by omega, fun j h1 h2 hj => ?_⟩
        rcases Nat.lt_or_ge j i with h3 | h3
        · exact hno j h1 h2 h3
        · have : j = i := by omega
          subst this; exact he
      · have : ¬ a = b := by rintro rfl; exact he rfl
        simp [h0, h1, h5, h, hb, he, this]
    · have : a = b := List.ext_getElem hl fun j h1 h2 => hno j h1 h2 (by omega)
      subst this
      have hn : ¬ i < a.length := h
      simp [h0, h1, h5, hn]
  · have : ¬ a = b := fun e => hl (by rw [e])
    have hl2 : ¬ (a.length : Int) = b.length := by omega
    simp [hl2, this]
def intsN (l : List Nat) : List Int := l.map fun (n : Nat) => (n : Int)
theorem nats_ints (l : List Nat) : avs natA l = ints' (intsN l) := by
  induction l with
  | nil => rfl
  | cons a l ih => simp only [avs_cons, ih]; rfl
theorem lists_nats (c : List (List Nat)) : avs (slA natA) c = lists' (c.map intsN) := by
  induction c with
  | nil => rfl
  | cons a c ih =>
    have h2 : slA natA a = slA (AV.int .i64) (intsN a) := by unfold slA; rw [nats_ints]
    show slA natA a :: avs (slA natA) c = slA (AV.int .i64) (intsN a) :: lists' (c.map intsN)
    rw [ih, h2]
def lv21 : List (List Int) := [[1, 2], [3], [2, 4]]
theorem lv21_is : (partsF lv21).map intsN = [[0, 2], [1]] := by decide +kernel
set_option maxRecDepth 100000 in
theorem T_live21 : T Try.prog 37 [] (.bool true) := by
  have k1 := T_gparts lv21 (by decide) (by simp [lv21])
  rw [show slA (slA natA) (partsF lv21) = .sl .no (avs (slA natA) (partsF lv21)) from rfl, lists_nats, lv21_is] at k1
  have k2 := T_same21 [[0, 2], [1]] [[0, 2], [1]] (by decide) (by simp)
  simp only [lv21, avs_cons, avs_nil, slA] at k1 k2
  refine T.intro (TS.body mix Try.func37 (by kernel_rfl) rfl (by kernel_rfl) (by simp) ?_)
  simp
  refine TS.callW k1 (by repeat (first | exact .self rfl | constructor)) ?_
  simp
  refine TS.callW k2 (by repeat (first | exact .self rfl | constructor)) ?_
  simp


end Go.Proofs.Ytahpoodcmeoabaa.PL
