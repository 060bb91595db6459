/- What finding in tables tells, the rest. -/
import Derived.Test.YtaahlhhpmooliaaDoorFFind
import Derived.Test.YtaahlhhpmooliaaDoorFGrow
namespace Go.Proofs.YtaahlhhpmooliaaDoor.PL
open Go.Proofs
set_option linter.unusedVariables false
set_option linter.unusedSimpArgs false

def dropAt {α : Type} (l : List α) (n : Int) : Nat → List α
  | 0 => []
  | i + 1 => dropAt l n i ++ match l[i]? with | some a => if (i : Int) = n then [] else [a] | none => []
theorem T_rwithout04 (rs : List (List Val)) (n : Int) (hl : rs.length ≤ 1000) : T Tryd.prog 15 [.sl .no (rows' rs), .int .i64 n] (.sl .no (rows' (dropAt rs n rs.length))) := by
  have hN : ∀ i (h : i < rs.length), dropAt rs n (i + 1) = dropAt rs n i ++ if (i : Int) = n then [] else [rs[i]] := fun i h => by
    simp [dropAt, h]
  have hln : ∀ i, (dropAt rs n i).length ≤ i := by
    intro i
    induction i with
    | zero => simp [dropAt]
    | succ i ih =>
      simp only [dropAt, List.length_append]
      cases rs[i]? with
      | none => simp; omega
      | some a => dsimp only; split <;> simp <;> omega
  refine T.intro (TS.body mix Tryd.func15 (by kernel_rfl) rfl (by kernel_rfl) (by simp) ?_)
  simp
  refine vc_loop (fun i : Nat => rs.length - i) (fun i e H => e 0 = .sl .no (rows' rs) ∧ e 1 = .int .i64 n ∧ e 6 = .int .i64 i ∧ i ≤ rs.length ∧ Grow1 1 H (e 5) (rows' (dropAt rs n i))) 0 ?_ ?_
  · simp [dropAt, Grow1]
  rintro i e H ⟨h0, h1, h6, hi, hg⟩
  by_cases h : i < rs.length
  · have ew := wrap_next h (by omega)
    have en := hN i h
    have hb := hln i
    simp [h0, h1, h6, h]
    refine condK_of (fun q => ?_) (fun q => ?_)
    · simp at q
      rw [if_neg q] at en
      rcases hg with ⟨ge, hg⟩ | ⟨k, hg, ht⟩
      · rw [avs_eq_nil] at ge
        simp [h0, h1, h6, h, hg]
        refine ⟨i + 1, by omega, ew, by omega, ?_⟩
        rw [en]
        exact Grow1.first (f := fun r => AV.sl .no (vals' r)) ge rfl
      · simp [h0, h1, h6, h, hg, ht]
        refine ⟨by omega, i + 1, by omega, ew, by omega, ?_⟩
        rw [en]
        exact Grow1.more ht rfl
    · simp at q
      rw [if_pos q, List.append_nil] at en
      simp [h0, h1, h6, h]
      exact ⟨i + 1, by omega, ew, by omega, by rw [en]; exact hg⟩
  · have : i = rs.length := by omega
    subst this
    obtain ⟨own, hg⟩ := hg.own
    simp [h0, h1, h6, hg]
end Go.Proofs.YtaahlhhpmooliaaDoor.PL
