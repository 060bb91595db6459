/- GyoTrees: among all trees. -/
import Derived.Test.YtahpoodcmeoabaaFGyo9
namespace Go.Proofs.Ytahpoodcmeoabaa.PL
open Go.Proofs
set_option linter.unusedVariables false
set_option linter.unusedSimpArgs false
/-- the first k parents that a number tells, of n each -/
def dgts (n : Nat) : Nat → Nat → List Int
  | 0, _ => []
  | k + 1, c => ((c % n : Nat) : Int) :: dgts n k (c / n)
theorem dgts_len (n : Nat) : ∀ k c, (dgts n k c).length = k
  | 0, _ => rfl
  | k + 1, c => by rw [dgts, List.length_cons, dgts_len n k]
theorem dgts_all {n : Nat} (hn : 0 < n) : ∀ (k : Nat) (l : List Int), l.length = k → (∀ x, x ∈ l → 0 ≤ x ∧ x < n) → ∃ c, c < n ^ k ∧ dgts n k c = l
  | 0, l, hl, _ => ⟨0, by simp, (List.eq_nil_of_length_eq_zero hl).symm⟩
  | k + 1, l, hl, hx => by
    cases l with
    | nil => cases hl
    | cons a l =>
      obtain ⟨c, h1, h2⟩ := dgts_all hn k l (by simpa using hl) fun x h => hx x (List.mem_cons_of_mem _ h)
      have ha := hx a (by simp)
      obtain ⟨m, rfl⟩ : ∃ m : Nat, a = m := ⟨a.toNat, by omega⟩
      have hm : m < n := by omega
      refine ⟨n * c + m, ?_, ?_⟩
      · rw [Nat.pow_succ]
        have : n * c + n ≤ n * n ^ k := by rw [← Nat.mul_succ]; exact Nat.mul_le_mul_left n h1
        rw [Nat.mul_comm (n ^ k) n]
        omega
      · rw [dgts, Nat.mul_add_mod, Nat.mod_eq_of_lt hm, Nat.mul_add_div hn, Nat.div_eq_of_lt hm, Nat.add_zero, h2]
def codeI (n c : Nat) : List Int := -1 :: dgts n (n - 1) c
def existsP (h : List (List Int)) : Prop := h.length = 0 ∨ ∃ c, c < h.length ^ (h.length - 1) ∧ joinsP h (codeI h.length c)
noncomputable def existsI (h : List (List Int)) : Bool := @decide (existsP h) (Classical.propDecidable _)
theorem existsI_iff {h : List (List Int)} : existsI h = true ↔ existsP h := by unfold existsI; simp
theorem existsI_no {h : List (List Int)} (hn : ¬ existsP h) : existsI h = false := by unfold existsI; simp [hn]
/-- a hypergraph is acyclic just if there is a join tree -/
theorem exists_acy {h : List (List Int)} : existsP h ↔ acyI h = true := by
  rcases Nat.eq_zero_or_pos h.length with h0 | hn
  · have : h = [] := List.eq_nil_of_length_eq_zero h0
    subst this
    exact ⟨fun _ => acy_nil, fun _ => .inl rfl⟩
  · rw [acy_elm h hn]
    constructor
    · rintro (h0 | ⟨c, _, hj⟩)
      · omega
      · exact joins_elm hj hn
    · intro he
      obtain ⟨es, L', hrun, hr⟩ := he.run (r := 0) (List.range h.length) hn fun k hk => by simpa using hk
      obtain ⟨j1, j2, j3⟩ := run_joins hrun hr hn
      have hlen := j1.1
      generalize parF es (List.replicate h.length (-1)) = ps at *
      cases ps with
      | nil => simp at j2
      | cons a ps =>
        simp at j2
        subst j2
        obtain ⟨c, c1, c2⟩ := dgts_all hn (h.length - 1) ps (by simp at hlen; omega) fun x hx => by
          obtain ⟨i, hi, rfl⟩ := List.getElem_of_mem hx
          obtain ⟨p, p1, p2⟩ := j3 (i + 1) (by simp at hlen; omega) (by omega)
          rw [List.getElem?_cons_succ, List.getElem?_eq_getElem hi] at p2
          simp at p2
          omega
        exact .inr ⟨c, c1, by unfold codeI; rw [c2]; exact j1⟩
theorem existsI_acy (h : List (List Int)) : existsI h = acyI h := by
  rw [Bool.eq_iff_iff, existsI_iff, exists_acy]
theorem pow_bound {n k : Nat} (hn : n ≤ 5) (hk : k ≤ 5) : n ^ k ≤ 3125 := by
  have h1 : n ^ k ≤ 5 ^ k := Nat.pow_le_pow_left hn k
  have h2 : 5 ^ k ≤ 5 ^ 5 := Nat.pow_le_pow_right (by omega) hk
  omega
set_option maxRecDepth 4000 in
theorem T_rexists (h : List (List Int)) (hh : HsOk h) (hn : h.length ≤ 5) : T Try.prog 52 [.sl .no (lists' h)] (.bool (existsI h)) := by
  refine T.intro (TS.body mix Try.func52 (by kernel_rfl) rfl (by kernel_rfl) (by simp) ?_)
  rcases Nat.eq_zero_or_pos h.length with h0 | hp
  · rw [existsI_iff.2 (.inl h0)]
    have : h = [] := List.eq_nil_of_length_eq_zero h0
    subst this
    simp
  obtain ⟨n, hnn⟩ : ∃ n, n = h.length := ⟨_, rfl⟩
  have hn0 : ¬ (h.length : Int) = 0 := by omega
  have hn1 : ¬ h = [] := by rintro rfl; simp at hp
  simp [hn0, hn1]
  rw [← hnn]
  refine vc_loop (fun i : Nat => n - i) (fun i e H => e 0 = .sl .no (lists' h) ∧ e 3 = .int .i64 n ∧ e 5 = .int .i64 i ∧ 1 ≤ i ∧ i ≤ n ∧ e 4 = .int .i64 (n ^ (i - 1) : Nat)) 1 ?_ ?_
  · simp
    omega
  rintro i e H ⟨e0, e3, e5, hi1, hi, e4⟩
  by_cases hlt : i < n
  · have ew := wrap_next hlt (by omega)
    have hb := pow_bound (n := n) (k := i) (by omega) (by omega)
    have e1 : n ^ (i + 1 - 1) = n ^ (i - 1) * n := by
      obtain ⟨j, rfl⟩ : ∃ j, i = j + 1 := ⟨i - 1, by omega⟩
      rw [show j + 1 + 1 - 1 = j + 1 by omega, show j + 1 - 1 = j by omega, Nat.pow_succ]
    have e2 : IntKind.i64.wrap (((n ^ (i - 1) : Nat) : Int) * n) = ((n ^ (i + 1 - 1) : Nat) : Int) := by
      rw [e1, ← Int.natCast_mul]
      have : n ^ (i - 1) * n ≤ 3125 := by rw [← e1]; simpa using hb
      rw [wrap_i64 (by omega) (by omega)]
    simp [e0, e3, e4, e5, hlt]
    refine ⟨i + 1, by omega, ew, by omega, by omega, ?_⟩
    rw [Int.natCast_pow, Int.natCast_pow] at e2
    exact e2
  have hin : i = n := by omega
  subst hin
  simp [e0, e3, e4, e5]
  obtain ⟨N, hN⟩ : ∃ N, N = i ^ (i - 1) := ⟨_, rfl⟩
  have hNb : N ≤ 3125 := by rw [hN]; exact pow_bound (by omega) (by omega)
  refine vc_loop (fun c : Nat => N - c) (fun c e H => e 0 = .sl .no (lists' h) ∧ e 3 = .int .i64 i ∧ e 4 = .int .i64 N ∧ e 6 = .int .i64 c ∧ c ≤ N ∧ ∀ c', c' < c → ¬ joinsP h (codeI i c')) 0 ?_ ?_
  · simp [e0, e3, e4, hN]
  clear e0 e3 e4 e5 e H
  rintro c e H ⟨e0, e3, e4, e6, hc, hno⟩
  by_cases hct : c < N
  · have ewc := wrap_next hct (by omega)
    simp [e0, e3, e4, e6, hct]
    refine vc_loop (fun k : Nat => i - k) (fun k e H => ∃ (A : List Int) (r : Nat), e 0 = .sl .no (lists' h) ∧ e 3 = .int .i64 i ∧ e 4 = .int .i64 N ∧ e 6 = .int .i64 c ∧ e 9 = .int .i64 k ∧ 1 ≤ k ∧ k ≤ i ∧ e 8 = .int .i64 r ∧ r ≤ c ∧ A.length = k ∧ Grow 1 H (e 7) (ints' A) ∧ codeI i c = A ++ dgts i (i - k) r) 1 ?_ ?_
    · refine ⟨[-1], c, ?_⟩
      simp [e0, e3, e4, e6, codeI]
      refine ⟨by omega, Grow.exact⟩
    clear e0 e3 e4 e6 e H
    rintro k e H ⟨A, r, e0, e3, e4, e6, e9, hk1, hk, e8, hr, hA, hg, hcode⟩
    by_cases hkt : k < i
    · have ewk := wrap_next hkt (by omega)
      obtain ⟨m, hm⟩ : ∃ m, i - k = m + 1 := ⟨i - k - 1, by omega⟩
      have hm2 : i - (k + 1) = m := by omega
      rw [hm, dgts] at hcode
      have hi0 : ¬ (i : Int) = 0 := by omega
      have hi1' : ¬ i = 0 := by omega
      have hrm : (r : Int).tmod (i : Int) = ((r % i : Nat) : Int) := by
        rw [Int.tmod_eq_emod_of_nonneg (by omega)]; simp
      have hrd : IntKind.i64.wrap ((r : Int) / (i : Int)) = ((r / i : Nat) : Int) := by
        have h1 : r / i ≤ r := Nat.div_le_self _ _
        have h2 : ((r : Int) / (i : Int)) = ((r / i : Nat) : Int) := by simp
        rw [h2]
        generalize r / i = q at h1
        rw [wrap_i64 (by omega) (by omega)]
      have hrle : r / i ≤ c := Nat.le_trans (Nat.div_le_self _ _) hr
      rcases hg with hg | ⟨t, hg, ht⟩
      · simp [e0, e3, e4, e6, e8, e9, hkt, hi0, hg]
        refine ⟨hi1', ⟨by omega, by omega⟩, hi1', k + 1, by omega, ewk, by omega, by omega, A ++ [((r % i : Nat) : Int)], r / i, hrd, hrle, by simp [hA], ?_, ?_⟩
        · rw [hrm]
          exact Grow.new (by simp)
        · rw [hcode, hm2]; simp
      · simp [e0, e3, e4, e6, e8, e9, hkt, hi0, hg, ht]
        refine ⟨hi1', ⟨by omega, by omega⟩, hi1', k + 1, by omega, ewk, by omega, by omega, A ++ [((r % i : Nat) : Int)], r / i, hrd, hrle, by simp [hA], ?_, ?_⟩
        · rw [hrm]
          exact Grow.set ht (by simp)
        · rw [hcode, hm2]; simp
    · have : k = i := by omega
      subst this
      rw [Nat.sub_self, dgts, List.append_nil] at hcode
      obtain ⟨own, ho⟩ := hg.own
      have kj := T_rjoins h (codeI k c) hh (by rw [hcode]; omega)
      rw [hcode] at kj
      simp [e0, e3, e4, e6, e8, e9, ho]
      refine TS.callW kj (.cons (.self (by simp)) (.cons (.sl (Dws.self (by simp))) .nil)) ?_
      rw [← hcode]
      cases hj : joinsI h (codeI k c) with
      | true =>
        rw [existsI_iff.2 (.inr ⟨c, by rw [← hnn, ← hN]; exact hct, by rw [← hnn]; exact joinsI_iff.1 hj⟩)]
        simp [e0, e3, e4, e6, e8, e9, ho]
      | false =>
        simp [e0, e3, e4, e6, e8, e9, ho]
        refine ⟨c + 1, by omega, ewc, by omega, fun c' hc' => ?_⟩
        rcases Nat.lt_or_ge c' c with h2 | h2
        · exact hno c' h2
        · have : c' = c := by omega
          subst this
          intro hq
          rw [joinsI_iff.2 hq] at hj
          cases hj
  · have : existsI h = false := existsI_no (by
      rintro (h0 | ⟨c', h1, h2⟩)
      · omega
      · rw [← hnn] at h1 h2
        exact hno c' (by omega) h2)
    rw [this]
    simp [e0, e3, e4, e6, hct]
theorem T_GyoTrees (h : List (List Int)) (hn0 : h.length < 4611686018427387904) (hs0 : ∀ l, l ∈ h → l.length < 4611686018427387904) : T Try.prog 8 [.sl .no (lists' h)] (.bool true) := by
  have km := T_much21 h hn0 hs0
  refine T.intro (TS.body mix Try.func8 (by kernel_rfl) rfl (by kernel_rfl) (by simp) ?_)
  simp
  refine TS.callW km (Dws.self (by simp)) ?_
  cases hm : muchG h with
  | true =>
    simp
    refine TS.callW T_live22 .nil ?_
    simp
  | false =>
    by_cases h5 : (5 : Int) < h.length
    · simp [h5]
      refine TS.callW T_live22 .nil ?_
      simp
    have hh := much_ok hm
    have hn := hh.n
    have k1 := T_parents h hh
    have k2 := T_acyclic h hh
    have kx := T_rexists h hh (by omega)
    rw [existsI_acy] at kx
    have hpl : (parI h).length = h.length := by unfold parI; rw [parF_len]; simp
    have k3 := T_rjoins h (parI h) hh (by omega)
    simp [h5]
    cases ha : acyI h with
    | false =>
      rw [ha] at k1 k2 kx
      simp at k1
      refine TS.callW k1 (Dws.self (by simp)) ?_
      simp
      refine TS.callW kx (Dws.self (by simp)) ?_
      simp
      refine GTK.callW (fun _ => ⟨k2, Dws.self (by simp)⟩) ?_
      simp
      refine GTK.callW (fun h => nomatch h) (ys := []) (r := .bool true) ?_
      simp
      refine GTK.callW (fun _ => ⟨T_live22, .nil⟩) ?_
      simp
    | true =>
      rw [ha] at k1 k2 kx
      rw [joinsI_iff.2 (par_joins ha)] at k3
      simp at k1
      refine TS.callW k1 (Dws.self (by simp)) ?_
      simp
      refine TS.callW kx (Dws.self (by simp)) ?_
      simp
      refine GTK.callW (fun _ => ⟨k2, Dws.self (by simp)⟩) ?_
      simp
      refine GTK.callW (fun _ => ⟨k3, Dws.self (by simp)⟩) ?_
      simp
      refine GTK.callW (fun _ => ⟨T_live22, .nil⟩) ?_
      simp
theorem S_GyoTrees {xs : List AV} (h : ShA Try.prog [32] xs) : T Try.prog 8 xs (.bool true) := by
  obtain ⟨y, r, rfl, h0, h⟩ := h.cons_of ag_32
  obtain rfl := h.nil_of
  obtain ⟨a, rfl, ha, hb⟩ := lists_in h0
  exact T_GyoTrees a ha hb
end Go.Proofs.Ytahpoodcmeoabaa.PL
