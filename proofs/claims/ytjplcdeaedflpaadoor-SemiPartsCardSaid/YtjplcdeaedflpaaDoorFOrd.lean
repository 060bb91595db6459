/- How values lie: what follows of any order. -/
import Derived.Test.YtjplcdeaedflpaaDoorFVal
namespace Go.Proofs.YtjplcdeaedflpaaDoor.PL
open Go.Proofs
set_option linter.unusedVariables false
set_option linter.unusedSimpArgs false
theorem texts_swap : ∀ a b : List UInt8, texts b a = - texts a b := by
  intro a
  induction a with
  | nil => intro b; cases b <;> simp [texts]
  | cons x xs ih =>
    intro b
    cases b with
    | nil => simp [texts]
    | cons y ys =>
      simp only [texts]
      by_cases h : x = y
      · subst h; simp [ih]
      · have h2 : ¬ y = x := fun e => h e.symm
        rw [if_neg h, if_neg h2]
        rcases UInt8.lt_or_lt_of_ne h with h' | h'
        · have : ¬ y < x := UInt8.lt_asymm h'
          simp [h', this]
        · have : ¬ x < y := UInt8.lt_asymm h'
          simp [h', this]
theorem ints_swap (a b : Int) : ints b a = - ints a b := by unfold ints; grind
theorem ints_vals (a b : Int) : ints a b = -1 ∨ ints a b = 0 ∨ ints a b = 1 := by unfold ints; grind
theorem order_swap (a b : Val) : order b a = - order a b := by
  unfold order
  rw [ints_swap b.k, ints_swap b.i, texts_swap b.s.toList]
  grind
theorem order_vals (a b : Val) : order a b = -1 ∨ order a b = 0 ∨ order a b = 1 := by
  unfold order
  split
  · exact ints_vals _ _
  · split
    · exact ints_vals _ _
    · exact texts_vals _ _
theorem texts_trans : ∀ a b c : List UInt8, texts a b ≤ 0 → texts b c ≤ 0 → texts a c ≤ 0 := by
  intro a
  induction a with
  | nil => intro b c; cases c <;> simp [texts]
  | cons x xs ih =>
    intro b c
    cases b with
    | nil => simp [texts]
    | cons y ys =>
      cases c with
      | nil => simp [texts]
      | cons z zs =>
        simp only [texts]
        intro h1 h2
        by_cases e1 : x = y
        · subst e1
          rw [if_pos rfl] at h1
          by_cases e2 : x = z
          · subst e2
            rw [if_pos rfl] at h2 ⊢
            exact ih _ _ h1 h2
          · rw [if_neg e2] at h2 ⊢
            exact h2
        · rw [if_neg e1] at h1
          have l1 : x < y := by
            by_cases h : x < y
            · exact h
            · rw [if_neg h] at h1; exact absurd h1 (by decide)
          by_cases e2 : y = z
          · subst e2
            rw [if_neg e1]; exact h1
          · rw [if_neg e2] at h2
            have l2 : y < z := by
              by_cases h : y < z
              · exact h
              · rw [if_neg h] at h2; exact absurd h2 (by decide)
            have l3 := UInt8.lt_trans l1 l2
            have : ¬ x = z := by rintro rfl; exact absurd l3 (UInt8.lt_irrefl _)
            rw [if_neg this, if_pos l3]; decide
theorem ints_le (a b : Int) : ints a b ≤ 0 ↔ a ≤ b := by unfold ints; grind
theorem order_trans {a b c : Val} (h1 : order a b ≤ 0) (h2 : order b c ≤ 0) : order a c ≤ 0 := by
  have h3 := texts_trans a.s.toList b.s.toList c.s.toList
  have z1 := texts_zero a.s.toList b.s.toList
  unfold order at *
  by_cases k1 : a.k = b.k
  · by_cases k2 : b.k = c.k
    · rw [if_neg (by simpa using k1)] at h1
      rw [if_neg (by simpa using k2)] at h2
      rw [if_neg (by simp [k1, k2])]
      by_cases i1 : a.i = b.i
      · by_cases i2 : b.i = c.i
        · rw [if_neg (by simpa using i1)] at h1
          rw [if_neg (by simpa using i2)] at h2
          rw [if_neg (by simp [i1, i2])]
          exact h3 h1 h2
        · rw [if_pos i2] at h2
          rw [i1, if_pos i2]; exact h2
      · rw [if_pos i1] at h1
        by_cases i2 : b.i = c.i
        · rw [← i2, if_pos i1]; exact h1
        · rw [if_pos i2] at h2
          rw [ints_le] at h1 h2
          rw [if_pos (by omega), ints_le]; omega
    · rw [if_pos k2] at h2
      rw [k1, if_pos k2]; exact h2
  · rw [if_pos k1] at h1
    by_cases k2 : b.k = c.k
    · rw [← k2, if_pos k1]; exact h1
    · rw [if_pos k2] at h2
      rw [ints_le] at h1 h2
      rw [if_pos (by omega), ints_le]; omega
theorem order_eq {a b : Val} (h : order a b = 0) : a = b := by
  unfold order at h
  by_cases k1 : a.k = b.k
  · by_cases i1 : a.i = b.i
    · simp [k1, i1] at h
      have := (texts_zero _ _).1 h
      rw [toList_inj] at this
      cases a; cases b; simp_all
    · simp [k1, i1] at h
      rw [ints_zero] at h
      exact absurd h i1
  · simp [k1] at h
    rw [ints_zero] at h
    exact absurd h k1
theorem order_self (a : Val) : order a a = 0 := by
  unfold order; simp; exact (texts_zero _ _).2 rfl
theorem order_anti {a b : Val} (h1 : order a b ≤ 0) (h2 : order b a ≤ 0) : a = b := by
  rw [order_swap a b] at h2
  exact order_eq (by omega)
end Go.Proofs.YtjplcdeaedflpaaDoor.PL
