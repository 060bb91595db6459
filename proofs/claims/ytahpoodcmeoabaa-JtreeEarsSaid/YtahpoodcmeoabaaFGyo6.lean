/- Trees by their parents: the reference; and parents by ears. -/
import Derived.Test.YtahpoodcmeoabaaFGyo4
namespace Go.Proofs.Ytahpoodcmeoabaa.PL
open Go.Proofs
set_option linter.unusedVariables false
set_option linter.unusedSimpArgs false
/-- the way up, of so many steps at most -/
def upF (ps : List Int) : Nat → Int → List Int
  | 0, _ => []
  | m + 1, i => if 0 ≤ i ∧ i < ps.length then i :: upF ps m (ps.getD i.toNat 0) else []
def upI (ps : List Int) (i : Int) : List Int := upF ps ps.length i
theorem upF_mem {ps : List Int} : ∀ {m : Nat} {i : Int} {x : Int}, x ∈ upF ps m i → 0 ≤ x ∧ x < ps.length
  | 0, i, x, h => by cases h
  | m + 1, i, x, h => by
    rw [upF] at h
    split at h
    · rename_i hc
      rcases List.mem_cons.1 h with rfl | h
      · exact hc
      · exact upF_mem h
    · cases h
theorem upF_len {ps : List Int} : ∀ (m : Nat) (i : Int), (upF ps m i).length ≤ m
  | 0, i => by simp [upF]
  | m + 1, i => by
    rw [upF]
    split
    · have := upF_len (ps := ps) m (ps.getD i.toNat 0)
      rw [List.length_cons]; omega
    · simp
set_option maxRecDepth 4000 in
theorem T_rup (ps : List Int) (i : Int) (hl : ps.length ≤ 1000000) : T Try.prog 92 [.sl .no (ints' ps), .int .i64 i] (.sl .no (ints' (upI ps i))) := by
  refine T.introF (TS.body mix Try.func92 (by kernel_rfl) rfl (by kernel_rfl) (by simp) ?_)
  simp
  refine vc_loop (fun n : Nat => ps.length - n) (fun n e H => ∃ (A : List Int) (c : Int), e 0 = .sl .no (ints' ps) ∧ e 1 = .int .i64 c ∧ e 6 = .int .i64 n ∧ n ≤ ps.length ∧ A.length = n ∧ Grow1 1 H (e 5) (ints' A) ∧ upI ps i = A ++ upF ps (ps.length - n) c) 0 ?_ ?_
  · exact ⟨[], i, by simp, by simp, by simp, Nat.zero_le _, rfl, .inl ⟨rfl, by simp⟩, by simp [upI]⟩
  rintro n e H ⟨A, c, e0, e1, e6, hn, hA, hg, hu⟩
  by_cases hlt : n < ps.length
  · have ew := wrap_next hlt (by omega)
    obtain ⟨m, hm⟩ : ∃ m, ps.length - n = m + 1 := ⟨ps.length - n - 1, by omega⟩
    have hm2 : ps.length - (n + 1) = m := by omega
    by_cases hc : 0 ≤ c ∧ c < ps.length
    · obtain ⟨k, rfl⟩ : ∃ k : Nat, c = k := ⟨c.toNat, by omega⟩
      have hk : k < ps.length := by omega
      rw [hm, upF, if_pos hc] at hu
      have hgk : ps.getD (k : Int).toNat 0 = ps[k] := by simp [hk]
      rw [hgk] at hu
      rcases hg with ⟨ge, hg⟩ | ⟨t, hg, ht⟩
      · rw [avs_eq_nil] at ge
        subst ge
        simp [e0, e1, e6, hlt, hk, hg]
        refine ⟨n + 1, by omega, ew, by omega, [(k : Int)], by simp at hA ⊢; omega, Grow1.first (f := AV.int .i64) (l := []) rfl rfl, ?_⟩
        rw [hu, hm2]; rfl
      · simp [e0, e1, e6, hlt, hk, hg, ht]
        refine ⟨⟨by omega, by omega⟩, n + 1, by omega, ew, by omega, A ++ [(k : Int)], by simp [hA], Grow1.more (f := AV.int .i64) (l := A) (a := (k : Int)) (n := A.length + 1) ht rfl, ?_⟩
        rw [hu, hm2]; simp
    · rw [hm, upF, if_neg hc, List.append_nil] at hu
      rw [hu]
      by_cases h1 : 0 ≤ c
      · have h2 : ¬ c < ps.length := fun h => hc ⟨h1, h⟩
        simp [e0, e1, e6, hlt, h1, h2]
        obtain ⟨own, ho⟩ := hg.own
        rw [ho]
        exact Frz.slN
      · simp [e0, e1, e6, hlt, h1]
        obtain ⟨own, ho⟩ := hg.own
        rw [ho]
        exact Frz.slN
  · have : n = ps.length := by omega
    rw [this, Nat.sub_self, upF, List.append_nil] at hu
    rw [hu]
    simp [e0, e1, e6, hlt]
    obtain ⟨own, ho⟩ := hg.own
    rw [ho]
    exact Frz.slN
def endOk (ps : List Int) (i : Nat) : Bool := decide (ps.getD ((upI ps i).getLast?.getD 0).toNat 0 = -1)
def treeI (ps : List Int) : Bool := (List.range ps.length).all (endOk ps) && (decide (ps.length = 0) || decide (ps.count (-1) = 1))
theorem upI_ne {ps : List Int} {i : Nat} (h : i < ps.length) : upI ps i ≠ [] := by
  unfold upI
  obtain ⟨m, hm⟩ : ∃ m, ps.length = m + 1 := ⟨ps.length - 1, by omega⟩
  have hc : 0 ≤ (i : Int) ∧ (i : Int) < ps.length := ⟨by omega, by omega⟩
  rw [hm, upF, if_pos hc]
  simp
theorem count_next {l : List Int} {i : Nat} (h : i < l.length) (a : Int) : (l.take (i + 1)).count a = (l.take i).count a + if l[i] = a then 1 else 0 := by
  rw [take_next h, List.count_append]
  by_cases c : l[i] = a <;> simp [c]
theorem all_range {q : Nat → Bool} {n : Nat} (h : ∀ j, j < n → q j = true) : (List.range n).all q = true := by
  rw [List.all_eq_true]
  intro x hx
  exact h x (by simpa using hx)
theorem all_range_no {q : Nat → Bool} {n j : Nat} (hj : j < n) (h : q j = false) : (List.range n).all q = false := by
  rw [List.all_eq_false]
  exact ⟨j, by simpa using hj, by simp [h]⟩
set_option maxRecDepth 4000 in
theorem T_rtree (ps : List Int) (hl : ps.length ≤ 1000000) : T Try.prog 17 [.sl .no (ints' ps)] (.bool (treeI ps)) := by
  refine T.intro (TS.body mix Try.func17 (by kernel_rfl) rfl (by kernel_rfl) (by simp) ?_)
  simp
  refine vc_loop (fun i : Nat => ps.length - i) (fun i e H => e 0 = .sl .no (ints' ps) ∧ e 3 = .int .i64 ((ps.take i).count (-1) : Nat) ∧ e 4 = .int .i64 i ∧ i ≤ ps.length ∧ ∀ j, j < i → endOk ps j = true) 0 ?_ ?_
  · simp
  rintro i e H ⟨e0, e3, e4, hi, hno⟩
  by_cases hlt : i < ps.length
  · have ew := wrap_next hlt (by omega)
    have ku := T_rup ps i hl
    have hne := upI_ne hlt
    have hmem : ∀ x, x ∈ upI ps i → 0 ≤ x ∧ x < ps.length := fun x hx => upF_mem hx
    have hul : (upI ps i).length ≤ ps.length := upF_len _ _
    have hq : endOk ps i = decide (ps.getD ((upI ps i).getLast?.getD 0).toNat 0 = -1) := rfl
    generalize upI ps i = U at *
    have hU : 0 < U.length := List.length_pos_iff.2 hne
    have hlast : U.getLast?.getD 0 = U[U.length - 1] := by
      rw [List.getLast?_eq_getElem?, List.getElem?_eq_getElem (by omega)]; rfl
    rw [hlast] at hq
    have hm2 := hmem _ (List.getElem_mem (l := U) (n := U.length - 1) (by omega))
    obtain ⟨k, hk⟩ : ∃ k : Nat, U[U.length - 1] = (k : Int) := ⟨(U[U.length - 1]).toNat, by omega⟩
    rw [hk] at hq hm2
    have hkl : k < ps.length := by omega
    have hgk : ps.getD (k : Int).toNat 0 = ps[k] := by simp [hkl]
    rw [hgk] at hq
    have ew1 : IntKind.i64.wrap ((U.length : Int) - 1) = ((U.length - 1 : Nat) : Int) := by rw [wrap_i64 (by omega) (by omega)]; omega
    have hlt2 : U.length - 1 < U.length := by omega
    have hcn := count_next hlt (-1)
    have hcl : (ps.take i).count (-1) ≤ i := Nat.le_trans List.count_le_length (by simp; omega)
    have ew2 : IntKind.i64.wrap (((ps.take i).count (-1) : Nat) + 1 : Int) = (((ps.take i).count (-1) + 1 : Nat) : Int) := by rw [wrap_i64 (by omega) (by omega)]; omega
    simp [e0, e3, e4, hlt]
    refine TS.callW ku (Dws.self (by simp)) ?_
    simp [e0, e3, e4, hlt, ew1, hlt2, hk, hkl]
    refine condK_of (fun c => ?_) (fun c => ?_)
    · have : treeI ps = false := by
        unfold treeI
        rw [all_range_no hlt (by rw [hq]; simpa using c), Bool.false_and]
      rw [this]
      simp
    · have c1 : ps[k] = -1 := by simpa using c
      have hno2 : ∀ j, j < i + 1 → endOk ps j = true := by
        intro j hj
        rcases Nat.lt_or_ge j i with h2 | h2
        · exact hno j h2
        · have : j = i := by omega
          subst this; rw [hq]; simpa using c1
      by_cases c2 : ps[i] = -1
      · rw [if_pos c2] at hcn
        simp [e0, e3, e4, hlt, c2]
        exact ⟨i + 1, by omega, by rw [hcn]; exact ew2, ew, by omega, hno2⟩
      · rw [if_neg c2] at hcn
        simp [e0, e3, e4, hlt, c2]
        exact ⟨i + 1, by omega, by rw [hcn]; rfl, ew, by omega, hno2⟩
  · have : i = ps.length := by omega
    subst this
    rw [List.take_length] at e3
    have : treeI ps = (decide (ps.length = 0) || decide (ps.count (-1) = 1)) := by
      unfold treeI
      rw [all_range hno, Bool.true_and]
    rw [this]
    by_cases c0 : ps.length = 0
    · have := List.eq_nil_of_length_eq_zero c0
      subst this
      simp at e0 e3 e4
      simp [e0, e3, e4]
    · have c1 : ¬ (ps.length : Int) = 0 := by omega
      have c2 : ¬ ps = [] := fun h => c0 (by rw [h]; rfl)
      simp [e0, e3, e4, c1, c2]
      try omega
end Go.Proofs.Ytahpoodcmeoabaa.PL
