/- What finding in tables tells, the rest. -/
import Derived.Test.YtgmhmdmfnmlhmaaFFind
import Derived.Test.YtgmhmdmfnmlhmaaFGrow
namespace Go.Proofs.Ytgmhmdmfnmlhmaa.PL
open Go.Proofs
set_option linter.unusedVariables false
set_option linter.unusedSimpArgs false
theorem T_kinds (t : Tab) (hl : t.cols.length ≤ 1000) : T Try.prog 71 [t.av] (.sl .no (ints' (t.cols.map (·.kind)))) := by
  have hN : ∀ i (h : i < t.cols.length), (t.cols.map (·.kind)).take (i + 1) = (t.cols.map (·.kind)).take i ++ [t.cols[i].kind] := fun i h => by
    have := take_next (l := t.cols.map (·.kind)) (i := i) (by simpa using h)
    simpa using this
  have hNl : (t.cols.map (·.kind)).length = t.cols.length := by simp
  generalize t.cols.map (·.kind) = N at *
  refine T.intro (TS.body mix Try.func71 (by kernel_rfl) rfl (by kernel_rfl) (by simp) ?_)
  simp
  refine vc_loop (fun i : Nat => t.cols.length - i) (fun i e H => ∃ junk, e 7 = .sl .no (avs Col.av t.cols) ∧ e 8 = .int .i64 t.cols.length ∧ e 9 = .int .i64 i ∧ i ≤ t.cols.length ∧ Grow0 1 junk (e 3) (ints' (N.take i)) ∧ H = .box t.cs :: junk) 0 ?_ ?_
  · exact ⟨[], by simp [Grow0]⟩
  rintro i e H ⟨junk, h7, h8, h9, hi, hg, rfl⟩
  by_cases h : i < t.cols.length
  · have ew := wrap_next h (by omega)
    have en := hN i h
    have hln : (N.take i).length = i := by simp; omega
    rcases hg with ⟨ge, hg⟩ | ⟨k, hg, ht⟩
    · rw [avs_eq_nil] at ge
      simp [h7, h8, h9, h, hg]
      refine ⟨i + 1, by omega, ew, by omega, ?_⟩
      rw [en, List.append_cons]
      exact Grow0.first' ge (by simp)
    · have hmin : min i N.length = i := by omega
      have hg0 : Grow0 1 (junk ++ [HO.box [.str t.cols[i].name, .int .i64 t.cols[i].kind]]) (e 3) (ints' (N.take i)) := Grow0.app (.inr ⟨k, hg, ht⟩)
      have ht' : (junk ++ [HO.box [.str t.cols[i].name, .int .i64 t.cols[i].kind]])[k]? = some (.spare (ints' (N.take i)).length 1) := by
        rw [List.getElem?_append_left (List.getElem?_eq_some_iff.1 ht).1]; exact ht
      have hll : (ints' (N.take i)).length = i := by simp; omega
      have ht'' := ht'
      rw [hll] at ht''
      simp [h7, h8, h9, h, hg, hmin, ht'']
      refine ⟨by omega, i + 1, by omega, ew, by omega, ?_⟩
      rw [en]
      exact Grow0.more' ht' (by omega)
  · have : i = t.cols.length := by omega
    subst this
    obtain ⟨own, hg⟩ := hg.own
    rw [List.take_of_length_le (by omega)] at hg
    simp [h7, h8, h9, hg]
def dropAt {α : Type} (l : List α) (n : Int) : Nat → List α
  | 0 => []
  | i + 1 => dropAt l n i ++ match l[i]? with | some a => if (i : Int) = n then [] else [a] | none => []
theorem T_rwithout04 (rs : List (List Val)) (n : Int) (hl : rs.length ≤ 1000) : T Try.prog 103 [.sl .no (rows' rs), .int .i64 n] (.sl .no (rows' (dropAt rs n rs.length))) := by
  have hN : ∀ i (h : i < rs.length), dropAt rs n (i + 1) = dropAt rs n i ++ if (i : Int) = n then [] else [rs[i]] := fun i h => by
    simp [dropAt, h]
  have hln : ∀ i, (dropAt rs n i).length ≤ i := by
    intro i
    induction i with
    | zero => simp [dropAt]
    | succ i ih =>
      simp only [dropAt, List.length_append]
      cases rs[i]? with
      | none => simp; omega
      | some a => dsimp only; split <;> simp <;> omega
  refine T.intro (TS.body mix Try.func103 (by kernel_rfl) rfl (by kernel_rfl) (by simp) ?_)
  simp
  refine vc_loop (fun i : Nat => rs.length - i) (fun i e H => e 0 = .sl .no (rows' rs) ∧ e 1 = .int .i64 n ∧ e 6 = .int .i64 i ∧ i ≤ rs.length ∧ Grow1 1 H (e 5) (rows' (dropAt rs n i))) 0 ?_ ?_
  · simp [dropAt, Grow1]
  rintro i e H ⟨h0, h1, h6, hi, hg⟩
  by_cases h : i < rs.length
  · have ew := wrap_next h (by omega)
    have en := hN i h
    have hb := hln i
    simp [h0, h1, h6, h]
    refine condK_of (fun q => ?_) (fun q => ?_)
    · simp at q
      rw [if_neg q] at en
      rcases hg with ⟨ge, hg⟩ | ⟨k, hg, ht⟩
      · rw [avs_eq_nil] at ge
        simp [h0, h1, h6, h, hg]
        refine ⟨i + 1, by omega, ew, by omega, ?_⟩
        rw [en]
        exact Grow1.first (f := fun r => AV.sl .no (vals' r)) ge rfl
      · simp [h0, h1, h6, h, hg, ht]
        refine ⟨by omega, i + 1, by omega, ew, by omega, ?_⟩
        rw [en]
        exact Grow1.more ht rfl
    · simp at q
      rw [if_pos q, List.append_nil] at en
      simp [h0, h1, h6, h]
      exact ⟨i + 1, by omega, ew, by omega, by rw [en]; exact hg⟩
  · have : i = rs.length := by omega
    subst this
    obtain ⟨own, hg⟩ := hg.own
    simp [h0, h1, h6, hg]
end Go.Proofs.Ytgmhmdmfnmlhmaa.PL
