/- Marks of numbers: both ways. -/
import Derived.Test.YtcjfjoilgnlemaaFHist1
namespace Go.Proofs.Ytcjfjoilgnlemaa.PL
open Go.Proofs
set_option linter.unusedVariables false
set_option linter.unusedSimpArgs false
/-- the place of a mark -/
def mkI (n i : Nat) : Nat := i * (n - 1) / 8
theorem mkI_lt {n i : Nat} (hi : i < 9) (hn : 0 < n) : mkI n i < n := by
  unfold mkI
  have : i * (n - 1) ≤ 8 * (n - 1) := Nat.mul_le_mul_right _ (by omega)
  omega
def marksF (l : List Int) : List Int := if l = [] then [] else (List.range 9).map fun i => (sortI l)[mkI l.length i]?.getD 0
def marksK (l : List Int) (k : Nat) : List Int := (List.range k).map fun i => (sortI l)[mkI l.length i]?.getD 0
theorem marksK_len (l : List Int) (k : Nat) : (marksK l k).length = k := by simp [marksK]
theorem marksK_next (l : List Int) (k : Nat) : marksK l (k + 1) = marksK l k ++ [(sortI l)[mkI l.length k]?.getD 0] := by simp [marksK, List.range_succ]
theorem marksF_of {l : List Int} (h : l ≠ []) : marksF l = marksK l 9 := by rw [marksF, if_neg h]; rfl
theorem marks_quo {n i : Nat} (hi : i < 9) (hn : n ≤ 1000000) : (IntKind.i64.wrap ((n : Int) - 1) = ((n - 1 : Nat) : Int) ∨ n = 0) ∧ IntKind.i64.wrap ((i : Int) * ((n - 1 : Nat) : Int)) = ((i * (n - 1) : Nat) : Int) := by
  have : i * (n - 1) ≤ 8 * (n - 1) := Nat.mul_le_mul_right _ (by omega)
  constructor
  · by_cases h : n = 0
    · exact .inr h
    · exact .inl (by rw [wrap_i64 (by omega) (by omega)]; omega)
  · rw [wrap_i64 (by omega) (by omega)]; simp
theorem mkI_quo {n i : Nat} (hi : i < 9) (hn : n ≤ 1000000) : ((i : Int) * ((n - 1 : Nat) : Int)).tdiv 8 = ((mkI n i : Nat) : Int) ∧ IntKind.i64.wrap ((mkI n i : Nat) : Int) = ((mkI n i : Nat) : Int) := by
  refine ⟨rfl, wrap_i64 (by omega) ?_⟩
  unfold mkI
  have : i * (n - 1) ≤ 8 * (n - 1) := Nat.mul_le_mul_right _ (by omega)
  omega
theorem T_rmarks (l : List Int) (hl : l.length ≤ 1000000) : T Try.prog 15 [.sl .no (ints' l)] (.sl .no (ints' (marksF l))) := by
  have ks := T_rsort l hl
  have hsl := sortI_len l
  refine T.introF (TS.body mix Try.func15 (by kernel_rfl) rfl (by kernel_rfl) (by simp) ?_)
  simp
  refine TS.callW ks (Dws.self (by simp)) ?_
  simp
  by_cases h0 : l = []
  · subst h0
    refine vc_loop (fun i : Nat => 0) (fun i e H => e 3 = .sl .nil [] ∧ e 4 = .sl .no [] ∧ e 5 = .int .i64 0) 0 ?_ ?_
    · simp [sortI]
    rintro i e H ⟨e3, e4, e5⟩
    simp [e3, e4, e5]
    exact Frz.slN (f := AV.int .i64) (l := [])
  have hlp : 0 < l.length := List.length_pos_iff.2 h0
  rw [marksF_of h0]
  obtain ⟨s, hs⟩ : ∃ s, s = sortI l := ⟨_, rfl⟩
  rw [← hs] at hsl ⊢
  refine vc_loop (fun i : Nat => 9 - i) (fun i e H => e 4 = .sl .no (ints' s) ∧ e 5 = .int .i64 i ∧ i ≤ 9 ∧ ((i = 0 ∧ e 3 = .sl .nil []) ∨ ∃ t, e 3 = .sl (.tok t) (ints' (marksK l i)) ∧ H[t]? = some (.spare i 1))) 0 ?_ ?_
  · simp
  rintro i e H ⟨e4, e5, hi, hg⟩
  have hsp : ¬ s = [] := by rintro rfl; simp at hsl; omega
  by_cases hlt : i < 9
  · obtain ⟨q1, q2⟩ := marks_quo hlt hl
    obtain ⟨q3, q4⟩ := mkI_quo hlt hl
    rcases q1 with q1 | q1
    case inr => omega
    have hml := mkI_lt hlt hlp
    have ew := wrap_next hlt (by omega)
    have hnx := marksK_next l i
    have hkl := marksK_len l i
    rw [← hs] at hnx
    have hlti : (i : Int) < 9 := by omega
    rw [← hsl] at q1 q2 q3 q4 hml hnx
    obtain ⟨v, hv⟩ : ∃ v, s[mkI s.length i]? = some v := ⟨_, List.getElem?_eq_getElem hml⟩
    rw [hv] at hnx
    simp only [Option.getD_some] at hnx
    have hsp2 : 0 < s.length := by omega
    have hmz : ((mkI s.length i : Nat) : Int) < s.length := by omega
    rcases hg with ⟨rfl, e3⟩ | ⟨t, e3, ht⟩
    · simp [e3, e4, e5, hlti, hsp, hsp2, q1, q2, q3, q4, hv, hmz]
      refine ⟨1, by omega, rfl, by omega, H.length, ⟨rfl, ?_⟩, by simp⟩
      have hm0 : mkI s.length 0 = 0 := by simp [mkI]
      rw [hm0] at hv
      have hv0 := (List.getElem?_eq_some_iff.1 hv).2
      rw [hnx]
      simp [marksK, hv0]
    · have htl := (List.getElem?_eq_some_iff.1 ht).1
      simp [e3, e4, e5, hlti, hsp, hsp2, q1, q2, q3, q4, hv, hmz, ht, hkl]
      exact ⟨⟨by omega, by omega⟩, i + 1, by omega, ew, by omega, t, ⟨rfl, by rw [hnx]⟩, by rw [List.getElem?_set_self htl]⟩
  · have : i = 9 := by omega
    subst this
    rcases hg with ⟨h, _⟩ | ⟨t, e3, ht⟩
    · omega
    simp [e3, e4, e5]
    exact Frz.slN (f := AV.int .i64)
set_option maxRecDepth 4000 in
theorem T_marks (l : List Int) (hl : l.length ≤ 1000000) : T Try.prog 11 [.sl .no (ints' l)] (.sl .no (ints' (marksF l))) := by
  refine T.introF (TS.body mix Try.func11 (by kernel_rfl) rfl (by kernel_rfl) (by simp) ?_)
  simp
  by_cases h0 : l = []
  · subst h0
    simp [marksF]
    exact Frz.slN (f := AV.int .i64) (l := [])
  have hlp : 0 < l.length := List.length_pos_iff.2 h0
  have h0' : ¬ (l.length : Int) = 0 := by omega
  have hsl := sortI_len l
  rw [marksF_of h0]
  simp [h0, h0']
  refine TS.pt S_valuesI ?_
  simp
  refine TS.pt (S_sortedSome (H := [.box [.sl .no (ints' l)]]) (k := 0) (l := l) rfl h0 hl) ?_
  simp
  obtain ⟨s, hs⟩ : ∃ s, s = sortI l := ⟨_, rfl⟩
  rw [← hs] at hsl ⊢
  refine vc_loop (fun i : Nat => 9 - i) (fun i e H => e 0 = .mv 1 l.length 1 0 l.length ∧ e 3 = .mv 2 9 1 0 9 ∧ e 13 = .int .i64 9 ∧ e 14 = .int .i64 i ∧ i ≤ 9 ∧ H = [.box [.sl .no (ints' l)], .row l.length 1 (ints' s), .row 9 1 (ints' (marksK l i ++ List.replicate (9 - i) 0))]) 0 ?_ ?_
  · simp [marksK, List.replicate]
  rintro i e H ⟨e0, e3, e13, e14, hi, rfl⟩
  by_cases hlt : i < 9
  · obtain ⟨q1, q2⟩ := marks_quo hlt hl
    rcases q1 with q1 | q1
    case inr => omega
    have hml := mkI_lt hlt hlp
    have ew := wrap_next hlt (by omega)
    have hnx := marksK_next l i
    have hkl := marksK_len l i
    rw [← hs] at hnx
    have hlti : (i : Int) < 9 := by omega
    obtain ⟨q3, q4⟩ := mkI_quo hlt hl
    have hml2 : mkI l.length i < s.length := by omega
    obtain ⟨v, hv⟩ : ∃ v, s[mkI l.length i]? = some v := ⟨_, List.getElem?_eq_getElem hml2⟩
    rw [hv] at hnx
    simp only [Option.getD_some] at hnx
    have hmz : ((mkI l.length i : Nat) : Int) < l.length := by omega
    simp [e0, e3, e13, e14, hlti, q1, q2, q3, q4, hv, hmz, hml2, hkl]
    refine ⟨by omega, i + 1, by omega, ew, by omega, congrArg _ ?_⟩
    have hv0 := (List.getElem?_eq_some_iff.1 hv).2
    rw [hnx, hv0, List.append_assoc]
    congr 1
    rw [List.singleton_append]
    congr 1
    rw [List.drop_append, hkl, List.drop_of_length_le (by omega), List.nil_append, List.drop_replicate]
    congr 1
    omega
  · have : i = 9 := by omega
    subst this
    simp [e0, e3, e13, e14]
    exact Frz.row rfl (by simp) (by simp [marksK_len]) (fun y hy => by obtain ⟨a, _, rfl⟩ := mem_avs.1 hy; rfl) (fun x hx => by obtain ⟨a, _, rfl⟩ := mem_avs.1 hx; simp)
end Go.Proofs.Ytcjfjoilgnlemaa.PL
