/- All classes, and nil ones. -/
import Derived.Test.YtgmhmdmfnmlhmabFUf5
namespace Go.Proofs.Ytgmhmdmfnmlhmab.PL
open Go.Proofs
set_option linter.unusedVariables false
set_option linter.unusedSimpArgs false
theorem T_thereNil (i : Int) : T Try.prog 84 [.nilp, .int .i64 i] (.bool false) := by
  refine T.intro (TS.body mix Try.func84 (by kernel_rfl) rfl (by kernel_rfl) (by simp) ?_)
  simp [isPtrT]
theorem T_findNil (i : Int) : T Try.prog 21 [.nilp, .int .i64 i] (.int .i64 (-1)) := by
  refine T.intro (TS.body mix Try.func21 (by kernel_rfl) rfl (by kernel_rfl) (by simp) ?_)
  simp
  refine TS.call' (T_thereNil i) (by simp) ?_
  simp
theorem T_joinNil (i j : Int) : T Try.prog 18 [.nilp, .int .i64 i, .int .i64 j] (.bool false) := by
  refine T.intro (TS.body mix Try.func18 (by kernel_rfl) rfl (by kernel_rfl) (by simp) ?_)
  simp
  refine TS.call' (T_findNil i) (by simp) ?_
  simp
  refine TS.call' (T_findNil j) (by simp) ?_
  simp
theorem T_sameNil (i j : Int) : T Try.prog 20 [.nilp, .int .i64 i, .int .i64 j] (.bool false) := by
  refine T.intro (TS.body mix Try.func20 (by kernel_rfl) rfl (by kernel_rfl) (by simp) ?_)
  simp
  refine TS.call' (T_thereNil i) (by simp) ?_
  simp
  refine GTK.no ?_
  simp
  refine GTK.no ?_
  simp
theorem T_lenNil : T Try.prog 22 [.nilp] (.int .i64 0) := by
  refine T.intro (TS.body mix Try.func22 (by kernel_rfl) rfl (by kernel_rfl) (by simp) ?_)
  simp [isPtrT]
theorem T_numberNil (i : Int) : T Try.prog 27 [.nilp, .int .i64 i] (.int .i64 (-1)) := by
  refine T.intro (TS.body mix Try.func27 (by kernel_rfl) rfl (by kernel_rfl) (by simp) ?_)
  simp
  refine TS.call' (T_thereNil i) (by simp) ?_
  simp
theorem T_allNil : T Try.prog 24 [.nilp] (.sl .no []) := by
  refine T.intro (TS.bodyM [33] mix Try.func24 (by kernel_rfl) rfl (by kernel_rfl) (by simp) ?_)
  simp
  refine TS.call' T_lenNil (by simp) ?_
  simp
  refine vc_rnds 1 ?_
  simp
theorem T_countNil : T Try.prog 26 [.nilp] (.int .i64 0) := by
  refine T.intro (TS.body mix Try.func26 (by kernel_rfl) rfl (by kernel_rfl) (by simp) ?_)
  simp
  refine TS.call' T_allNil (by simp) ?_
  simp
open Classical in
/-- which class a number is in, of the first i -/
noncomputable def numC (cs : List (List Nat)) (a : Int) : Nat → Int
  | 0 => -1
  | i + 1 => if ∃ x, x ∈ cs.getD i [] ∧ (x : Int) = a then (i : Int) else numC cs a i
theorem rsA_split {ρ : Nat → Nat} {n k : Nat} (h1 : ρ k < n) (h2 : ρ (ρ k) = ρ k) : ∃ L, rsA ρ n = rsA ρ (ρ k) ++ ρ k :: L := by
  obtain ⟨d, rfl⟩ : ∃ d, n = ρ k + 1 + d := ⟨n - (ρ k + 1), by omega⟩
  induction d with
  | zero => exact ⟨[], by rw [Nat.add_zero, rsA_succ, if_pos h2]⟩
  | succ d ih =>
    obtain ⟨L, hL⟩ := ih (by omega)
    rw [show ρ k + 1 + (d + 1) = (ρ k + 1 + d) + 1 by omega, rsA_succ, hL]
    split
    · exact ⟨L ++ [ρ k + 1 + d], by simp⟩
    · exact ⟨L, rfl⟩
theorem numC_end {ρ : Nat → Nat} {n : Nat} (hρ : ∀ k, k < n → ρ k ≤ k ∧ ρ (ρ k) = ρ k) (a : Int) : numC (csA ρ n) a (csA ρ n).length = nmR n ρ a := by
  unfold nmR
  split
  · rename_i h
    obtain ⟨k, rfl⟩ : ∃ k : Nat, a = k := ⟨a.toNat, by omega⟩
    have hk : k < n := by omega
    have h1 := hρ k hk
    obtain ⟨L, hL⟩ := rsA_split (ρ := ρ) (n := n) (k := k) (by omega) h1.2
    simp only [Int.toNat_natCast]
    have key : ∀ i, i ≤ (csA ρ n).length → numC (csA ρ n) k i = if (rsA ρ (ρ k)).length < i then ((rsA ρ (ρ k)).length : Int) else -1 := by
      intro i
      induction i with
      | zero => intro _; simp [numC]
      | succ i ih =>
        intro hi
        have hir : i < (rsA ρ n).length := by rw [← csA_length]; omega
        have hc : (csA ρ n).getD i [] = clA ρ n (rsA ρ n)[i] := by simp [csA, hir]
        have hm : (∃ x, x ∈ (csA ρ n).getD i [] ∧ (x : Int) = (k : Int)) ↔ i = (rsA ρ (ρ k)).length := by
          rw [hc]
          constructor
          · rintro ⟨x, hx, e⟩
            have : x = k := by omega
            subst this
            have hx2 : ρ x = (rsA ρ n)[i] := by unfold clA at hx; simpa using (List.mem_filter.1 hx).2
            have g1 : (rsA ρ n)[i]? = some (ρ x) := by rw [List.getElem?_eq_getElem hir, hx2]
            have g2 : (rsA ρ n)[(rsA ρ (ρ x)).length]? = some (ρ x) := by rw [hL]; simp
            rw [← g2] at g1
            exact (List.getElem?_inj hir rsA_nodup).1 g1
          · rintro rfl
            refine ⟨k, ?_, rfl⟩
            have : (rsA ρ n)[(rsA ρ (ρ k)).length] = ρ k := by
              have g2 : (rsA ρ n)[(rsA ρ (ρ k)).length]? = some (ρ k) := by rw [hL]; simp
              rw [List.getElem?_eq_getElem hir] at g2
              exact Option.some.inj g2
            rw [this]
            unfold clA
            simp [hk]
        rw [numC, ih (by omega)]
        by_cases e : i = (rsA ρ (ρ k)).length
        · rw [if_pos (hm.2 e), if_pos (by omega), e]
        · rw [if_neg (fun x => e (hm.1 x))]
          split <;> split <;> first | rfl | omega
    rw [key _ (Nat.le_refl _), if_pos]
    rw [csA_length, hL]; simp
  · rename_i h
    have key : ∀ i, i ≤ (csA ρ n).length → numC (csA ρ n) a i = -1 := by
      intro i
      induction i with
      | zero => intro _; rfl
      | succ i ih =>
        intro hi
        have hir : i < (rsA ρ n).length := by rw [← csA_length]; omega
        have hc : (csA ρ n).getD i [] = clA ρ n (rsA ρ n)[i] := by simp [csA, hir]
        rw [numC, if_neg, ih (by omega)]
        rintro ⟨x, hx, e⟩
        rw [hc] at hx
        unfold clA at hx
        have := List.mem_range.1 (List.mem_filter.1 hx).1
        omega
    exact key _ (Nat.le_refl _)
set_option maxHeartbeats 2000000 in
set_option maxRecDepth 4000 in
theorem T_UfAlls (m : Nat) (ps : List (Int × Int)) (a : Int) (hm : m < 256) (hl : ps.length < 4611686018427387904) : T Try.prog 5 [.int .u8 m, .sl .no (avs pairA ps), .int .i64 a] (.bool true) := by
  have p1 := S_play [] m ps hm hl
  have q1 := pl_ok (C := 0) (R := 1) (by omega) ps (newH [] (m % 40)) (List.range (m % 40)) (List.range (m % 40)) (new_at [] _) (range_ok _) (same_new _)
  have hS1 : UfS (plH (newH [] (m % 40)) 1 (List.range (m % 40)) ps) 0 1 (m % 40) (fun k => (plR (List.range (m % 40)) ps).getD k 0) := UfS.of06 q1.2.1 q1.2.2.1 q1.2.2.2 (by rw [q1.1]; simp)
  have hρ := plR_06 (n := m % 40) ps
  have hrl : (plR (List.range (m % 40)) ps).length = m % 40 := by rw [plR_len]; simp
  have f2 := T_rall (plR (List.range (m % 40)) ps) (by rw [hrl]; omega) (fun k hk => (hρ k (by omega)).1)
  rw [hrl] at f2
  have hn : m % 40 < 40 := by omega
  refine T.intro (TS.body mix Try.func5 (by kernel_rfl) rfl (by kernel_rfl) (by simp) ?_)
  simp
  refine condK_of (fun q => ?_) (fun q => ?_)
  · simp
    (first | refine TS.call' (T_live06) (by simp) ?_ | refine TDK.call' (T_live06) (by simp) ?_ | refine GTK.call (fun _ => ⟨T_live06, by simp⟩) ?_ | refine TS.call (T_live06) (by simp) ?_ | refine TDK.call (T_live06) (by simp) ?_); simp
  simp at q
  simp
  refine TS.pt p1 ?_
  simp
  generalize plH (newH [] (m % 40)) 1 (List.range (m % 40)) ps = H1 at *
  generalize plR (List.range (m % 40)) ps = r at *
  generalize hN : m % 40 = n at *
  generalize hR : (fun k => r.getD k 0) = ρ at *
  clear p1 q1
  have hρ' : ∀ k, k < n → ρ k ≤ k ∧ ρ (ρ k) = ρ k := by rw [← hR]; exact hρ
  refine TS.ptE (S_all H1 0 1 n ρ hS1 hρ' (by omega) (by omega)) ?_
  rintro _ H2 ⟨rfl, hs2⟩
  simp
  refine TS.call' f2 (by simp) ?_
  simp
  refine GTK.yes (TS.ptE (S_count _ _ _ _ _ hs2.st hρ' (by omega) (by omega)) ?_)
  rintro _ H3 ⟨rfl, hs3⟩
  simp [csA_length]
  have hcl : (csA ρ n).length ≤ n := by rw [csA_length]; exact Nat.le_trans (List.length_filter_le _ _) (by simp)
  have hcc : ∀ c, c ∈ csA ρ n → c.length ≤ n := by
    intro c hc
    simp only [csA, List.mem_map] at hc
    obtain ⟨i, _, rfl⟩ := hc
    exact Nat.le_trans (List.length_filter_le _ _) (by simp)
  have hend := numC_end hρ' a
  rw [← csA_length]
  generalize hcs : csA ρ n = cs at *
  refine vc_loop (fun i : Nat => cs.length - i) (fun i e H => e 2 = .int .i64 a ∧ e 7 = .ptr 0 0 ∧ e 9 = slA (slA natA) cs ∧ e 10 = slA (slA natA) cs ∧ e 11 = .int .i64 (numC cs a i) ∧ e 12 = .int .i64 i ∧ i ≤ cs.length ∧ H = H3) 0 ?_ ?_
  · simp [numC]
  rintro i e H ⟨h2, h7, h9, h10, h11, h12, hi, rfl⟩
  by_cases h : i < cs.length
  · have ew := wrap_next h (by omega)
    have hc1 := hcc _ (List.getElem_mem h)
    have hnx : ((∃ x, x ∈ cs.getD i [] ∧ (x : Int) = a) → numC cs a (i + 1) = i) ∧ ((¬ ∃ x, x ∈ cs.getD i [] ∧ (x : Int) = a) → numC cs a (i + 1) = numC cs a i) := ⟨fun h => by rw [numC, if_pos h], fun h => by rw [numC, if_neg h]⟩
    rw [show cs.getD i [] = cs[i] by simp [h]] at hnx
    generalize hc : cs[i] = c at *
    simp [h2, h7, h9, h10, h11, h12, h, hc]
    refine vc_loop (fun k : Nat => c.length - k) (fun k e H' => e 2 = .int .i64 a ∧ e 7 = .ptr 0 0 ∧ e 9 = slA (slA natA) cs ∧ e 10 = slA (slA natA) cs ∧ e 12 = .int .i64 i ∧ e 13 = .int .i64 k ∧ k ≤ c.length ∧ ((∃ x, x ∈ c.take k ∧ (x : Int) = a) ∧ e 11 = .int .i64 i ∨ (¬ ∃ x, x ∈ c.take k ∧ (x : Int) = a) ∧ e 11 = .int .i64 (numC cs a i)) ∧ H' = H) 0 ?_ ?_
    · simp [h2, h7, h9, h10, h11, h12]
    clear h2 h7 h9 h10 h11 h12 e
    rintro k e H' ⟨h2, h7, h9, h10, h12, h13, hk, h11, rfl⟩
    by_cases hkl : k < c.length
    · have ewk := wrap_next hkl (by omega)
      have htk := take_next hkl
      simp [h2, h7, h9, h10, h12, h13, h, hc, hkl]
      refine condK_of (fun q2 => ?_) (fun q2 => ?_)
      · simp at q2
        simp [h2, h7, h9, h10, h12, h13, h, hc, hkl]
        exact ⟨k + 1, by omega, ewk, by omega, .inl ⟨c[k], by rw [htk]; exact List.mem_append.2 (.inr (by simp)), q2⟩⟩
      · simp at q2
        simp [h2, h7, h9, h10, h12, h13, h, hc, hkl]
        refine ⟨k + 1, by omega, ewk, by omega, ?_⟩
        rw [htk]
        rcases h11 with ⟨⟨x, hx, hxa⟩, he⟩ | ⟨hno, he⟩
        · exact .inl ⟨⟨x, List.mem_append.2 (.inl hx), hxa⟩, he⟩
        · refine .inr ⟨?_, he⟩
          intro x hx
          rw [List.mem_append] at hx
          rcases hx with hx | hx
          · exact fun e => hno ⟨x, hx, e⟩
          · simp at hx; subst hx; exact q2
    · have : k = c.length := by omega
      subst this
      rw [List.take_length] at h11
      simp [h2, h7, h9, h10, h12, h13, h, hc]
      refine ⟨i + 1, by omega, ?_, ew, by omega⟩
      rcases h11 with ⟨hx, he⟩ | ⟨hx, he⟩
      · rw [hnx.1 hx, he]
      · rw [hnx.2 hx, he]
  · have : i = cs.length := by omega
    subst this
    rw [hend] at h11
    subst hcs
    simp [h2, h7, h9, h10, h11, h12]
    refine TS.ptE (S_number H 0 1 n ρ a hs3.st hρ' (by omega) (by omega)) ?_
    rintro _ H5 ⟨rfl, hs5⟩
    simp [h2, h7, h9, h10, h11, h12]
    refine GTK.yes (TS.call' (T_joinNil _ _) (by simp) ?_)
    simp [h2, h7, h9, h10, h11, h12]
    refine GTK.yes (TS.call' (T_findNil _) (by simp) ?_)
    simp [h2, h7, h9, h10, h11, h12]
    refine GTK.yes (TS.call' T_lenNil (by simp) ?_)
    simp [h2, h7, h9, h10, h11, h12]
    refine GTK.yes (TS.call' T_countNil (by simp) ?_)
    simp [h2, h7, h9, h10, h11, h12]
    refine GTK.yes (TS.call' (T_numberNil _) (by simp) ?_)
    simp [h2, h7, h9, h10, h11, h12]
    refine GTK.yes (TS.call' (T_sameNil _ _) (by simp) ?_)
    simp [h2, h7, h9, h10, h11, h12]
    refine GTK.yes (TS.call' T_live06 (by simp) ?_)
    simp
theorem S_UfAlls {xs : List AV} (h : ShA Try.prog [5, 22, 3] xs) : T Try.prog 5 xs (.bool true) := by
  obtain ⟨y, r, rfl, h0, h⟩ := h.cons_of ag_5
  obtain ⟨y, r, rfl, h1, h⟩ := h.cons_of ag_22
  obtain ⟨y, r, rfl, h2, h⟩ := h.cons_of ag_3
  obtain rfl := h.nil_of
  obtain ⟨m, rfl, hm⟩ := h0.int_of un_5
  obtain ⟨ps, rfl, hps⟩ := pairs_in h1
  obtain ⟨a, rfl, _⟩ := h2.int_of un_3
  have hm := u8_wf hm
  obtain ⟨m, rfl⟩ : ∃ k : Nat, m = k := ⟨m.toNat, by omega⟩
  exact T_UfAlls m ps a (by omega) hps
end Go.Proofs.Ytgmhmdmfnmlhmab.PL
