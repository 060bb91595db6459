/- GraphTells. -/
import Derived.Test.YtaahlhhpmooliaaFGraph6
namespace Go.Proofs.Ytaahlhhpmooliaa.PL
open Go.Proofs
set_option linter.unusedVariables false
set_option linter.unusedSimpArgs false
def qA (h : List (List Int)) : Nat → List (Int × Int)
  | 0 => []
  | i + 1 => qA h i ++ pI h i h.length
theorem pI_mem {h : List (List Int)} {i : Nat} {p : Int × Int} : ∀ {n : Nat}, p ∈ pI h i n ↔ ∃ k, k < n ∧ p = ((i : Int), (k : Int)) ∧ 0 < (sharedI (h.getD i []) (h.getD k [])).length
  | 0 => by simp [pI]
  | n + 1 => by
    rw [pI, List.mem_append, pI_mem]
    unfold pJ
    constructor
    · rintro (⟨k, h1, h2, h3⟩ | h1)
      · exact ⟨k, by omega, h2, h3⟩
      · split at h1
        · cases h1
        · simp only [List.mem_singleton] at h1
          exact ⟨n, by omega, h1, by omega⟩
    · rintro ⟨k, h1, h2, h3⟩
      by_cases hk : k = n
      · subst hk
        refine .inr ?_
        rw [if_neg (by omega), h2]
        simp
      · exact .inl ⟨k, by omega, h2, h3⟩
theorem pA_mem {h : List (List Int)} {p : Int × Int} : ∀ {n : Nat}, p ∈ pA h n ↔ ∃ i k, i < n ∧ k < i ∧ p = ((i : Int), (k : Int)) ∧ 0 < (sharedI (h.getD i []) (h.getD k [])).length
  | 0 => by simp [pA]
  | n + 1 => by
    rw [pA, List.mem_append, pA_mem, pI_mem]
    constructor
    · rintro (⟨i, k, h1, h2, h3⟩ | ⟨k, h1, h2⟩)
      · exact ⟨i, k, by omega, h2, h3⟩
      · exact ⟨n, k, by omega, h1, h2⟩
    · rintro ⟨i, k, h1, h2, h3⟩
      by_cases hi : i = n
      · subst hi; exact .inr ⟨k, h2, h3⟩
      · exact .inl ⟨i, k, by omega, h2, h3⟩
theorem qA_mem {h : List (List Int)} {p : Int × Int} : ∀ {n : Nat}, p ∈ qA h n ↔ ∃ i k, i < n ∧ k < h.length ∧ p = ((i : Int), (k : Int)) ∧ 0 < (sharedI (h.getD i []) (h.getD k [])).length
  | 0 => by simp [qA]
  | n + 1 => by
    rw [qA, List.mem_append, qA_mem, pI_mem]
    constructor
    · rintro (⟨i, k, h1, h2, h3⟩ | ⟨k, h1, h2⟩)
      · exact ⟨i, k, by omega, h2, h3⟩
      · exact ⟨n, k, by omega, h1, h2⟩
    · rintro ⟨i, k, h1, h2, h3⟩
      by_cases hi : i = n
      · subst hi; exact .inr ⟨k, h2, h3⟩
      · exact .inl ⟨i, k, by omega, h2, h3⟩
/-- lists of joins that say the same -/
theorem plR_same {n : Nat} {ps qs : List (Int × Int)} (h1 : ∀ p, p ∈ ps → inN n p → (plR (List.range n) qs).getD p.1.toNat 0 = (plR (List.range n) qs).getD p.2.toNat 0)
    (h2 : ∀ p, p ∈ qs → inN n p → (plR (List.range n) ps).getD p.1.toNat 0 = (plR (List.range n) ps).getD p.2.toNat 0) : ∀ k, k < n → (plR (List.range n) ps).getD k 0 = (plR (List.range n) qs).getD k 0 := by
  have hl : (List.range n).length = n := List.length_range
  have one : ∀ {ps qs : List (Int × Int)}, (∀ p, p ∈ ps → inN n p → (plR (List.range n) qs).getD p.1.toNat 0 = (plR (List.range n) qs).getD p.2.toNat 0) → ∀ k, k < n → (plR (List.range n) qs).getD k 0 ≤ (plR (List.range n) ps).getD k 0 := by
    intro ps qs h k hk
    have h1 := plR_06 (n := n) ps k hk
    have hm : (plR (List.range n) ps).getD k 0 < n := by omega
    have e := plR_least (φ := fun k => (plR (List.range n) qs).getD k 0) (ps := ps) (r := List.range n) (fun p hp hin => h p hp (by rwa [hl] at hin))
      (fun i j hi hj e => by
        rw [hl] at hi hj
        have : i = j := by simpa [hi, hj] using e
        rw [this]) k _ (by rw [hl]; exact hk) (by rw [hl]; exact hm) h1.2.symm
    rw [e]
    exact (plR_06 (n := n) qs _ hm).1
  intro k hk
  have a := one h1 k hk
  have b := one h2 k hk
  omega
theorem parts_same (h : List (List Int)) : ∀ k, k < h.length → (plR (List.range h.length) (pA h h.length)).getD k 0 = (plR (List.range h.length) (qA h h.length)).getD k 0 := by
  have hl : (List.range h.length).length = h.length := List.length_range
  refine plR_same (fun p hp hin => ?_) (fun p hp hin => ?_)
  · obtain ⟨i, k, h1, h2, h3, h4⟩ := pA_mem.1 hp
    exact plR_resp (qA_mem.2 ⟨i, k, h1, by omega, h3, h4⟩) (by rw [hl]; exact hin)
  · obtain ⟨i, k, h1, h2, rfl, h4⟩ := qA_mem.1 hp
    rcases Nat.lt_trichotomy i k with h5 | h5 | h5
    · have := plR_resp (r := List.range h.length) (p := ((k : Int), (i : Int))) (pA_mem.2 ⟨k, i, h2, h5, rfl, by rw [sharedI_comm]; exact h4⟩) (by rw [hl]; exact ⟨hin.2, hin.1⟩)
      exact this.symm
    · subst h5; rfl
    · exact plR_resp (pA_mem.2 ⟨i, k, h1, h5, rfl, h4⟩) (by rw [hl]; exact hin)
theorem csA_congr {ρ σ : Nat → Nat} {n : Nat} (h : ∀ k, k < n → ρ k = σ k) : csA ρ n = csA σ n := by
  have hr : rsA ρ n = rsA σ n := by
    unfold rsA
    refine List.filter_congr fun k hk => ?_
    rw [h k (List.mem_range.1 hk)]
  unfold csA
  rw [hr]
  refine List.map_congr_left fun i _ => ?_
  unfold clA
  refine List.filter_congr fun k hk => ?_
  rw [h k (List.mem_range.1 hk)]
theorem T_rparts21 (h : List (List Int)) (hn : h.length ≤ 1000) (hs : ∀ l, l ∈ h → l.length ≤ 1000) : T Try.prog 64 [.sl .no (lists' h)] (slA (slA natA) (partsF h)) := by
  have k0 := T_rnew h.length hn
  refine T.introF (TS.body mix Try.func64 (by kernel_rfl) rfl (by kernel_rfl) (by simp) ?_)
  simp
  refine TS.callW k0 (Dws.self (by simp)) ?_
  simp
  refine vc_loop (fun i : Nat => h.length - i) (fun i e H => e 0 = .sl .no (lists' h) ∧ e 3 = .sl .no (nats' (plR (List.range h.length) (qA h i))) ∧ e 4 = .int .i64 i ∧ i ≤ h.length ∧ H = []) 0 ?_ ?_
  · simp [qA, plR]
  rintro i e H ⟨e0, e3, e4, hi, rfl⟩
  by_cases hlt : i < h.length
  · have ew := wrap_next hlt (by omega)
    simp [e0, e3, e4, hlt]
    refine vc_loop (fun k : Nat => h.length - k) (fun k e H => e 0 = .sl .no (lists' h) ∧ e 3 = .sl .no (nats' (plR (List.range h.length) (qA h i ++ pI h i k))) ∧ e 4 = .int .i64 i ∧ e 5 = .int .i64 k ∧ k ≤ h.length ∧ H = []) 0 ?_ ?_
    · simp [e0, e3, e4, pI]
    clear e0 e3 e4 e
    rintro k e H ⟨e0, e3, e4, e5, hk, rfl⟩
    by_cases hkt : k < h.length
    · have ekw := wrap_next hkt (by omega)
      have kx := T_rshared21 h[i] h[k] (by have := hs _ (List.getElem_mem hlt); omega) (by have := hs _ (List.getElem_mem hkt); omega)
      have kj := T_rjoin (plR (List.range h.length) (qA h i ++ pI h i k)) (i : Int) (k : Int) (by rw [plR_len]; simpa using hn)
      have hnext : pI h i (k + 1) = pI h i k ++ if (sharedI h[i] h[k]).length = 0 then [] else [((i : Int), (k : Int))] := by
        rw [pI, pJ]
        simp [hlt, hkt]
      simp [e0, e3, e4, e5, hkt, hlt]
      refine TDK.callW kx (Dws.self (by simp)) ?_
      by_cases hz : (sharedI h[i] h[k]).length = 0
      · rw [if_pos hz, List.append_nil] at hnext
        simp [e0, e3, e4, e5, hkt, hlt, hz]
        exact ⟨k + 1, by omega, by rw [hnext], ekw, by omega⟩
      · rw [if_neg hz] at hnext
        have hz' : 0 < (sharedI h[i] h[k]).length := by omega
        have hz2 : ¬ sharedI h[i] h[k] = [] := fun e => hz (by rw [e]; rfl)
        simp [e0, e3, e4, e5, hkt, hlt, hz', hz2]
        refine TS.callW kj (Dws.self (by simp)) ?_
        simp [e0, e3, e4, e5]
        refine ⟨k + 1, by omega, ?_, ekw, by omega⟩
        rw [hnext, ← List.append_assoc, plR_append _ (qA h i ++ pI h i k) [((i : Int), (k : Int))]]
        rfl
    · have hke : k = h.length := by omega
      subst hke
      simp [e0, e3, e4, e5]
      exact ⟨i + 1, by omega, by rw [qA], ew, by omega⟩
  · have : i = h.length := by omega
    subst this
    have hl : (plR (List.range h.length) (qA h h.length)).length = h.length := by rw [plR_len]; simp
    have ka := T_rall (plR (List.range h.length) (qA h h.length)) (by omega) (fun k hk => (plR_06 (qA h h.length) k (by omega)).1)
    rw [hl] at ka
    have hp : partsF h = csA (fun k => (plR (List.range h.length) (qA h h.length)).getD k 0) h.length := csA_congr (parts_same h)
    rw [← hp] at ka
    simp [e0, e3, e4]
    refine TS.callW ka (Dws.self (by simp)) ?_
    simp
    exact Frz.slN (f := slA natA)
def muchG (h : List (List Int)) : Bool := ((h.take 20).any fun l => decide (30 < l.length)) || decide (12 < h.length)
theorem T_much21 (h : List (List Int)) (hn : h.length < 4611686018427387904) (hs : ∀ l, l ∈ h → l.length < 4611686018427387904) : T Try.prog 54 [.sl .no (lists' h)] (.bool (muchG h)) := by
  refine T.intro (TS.body mix Try.func54 (by kernel_rfl) rfl (by kernel_rfl) (by simp) ?_)
  simp
  refine vc_loop (fun i : Nat => h.length - i) (fun i e H => e 0 = .sl .no (lists' h) ∧ e 3 = .int .i64 i ∧ i ≤ h.length ∧ i ≤ 20 ∧ ((h.take i).any fun l => decide (30 < l.length)) = false) 0 ?_ ?_
  · simp
  rintro i e H ⟨e0, e3, hi, hi2, hno⟩
  by_cases hlt : i < h.length ∧ i < 20
  · have ew := wrap_next hlt.1 (by omega)
    have hl1 := hlt.1
    have hl2 : (i : Int) < 20 := by omega
    by_cases hb : 30 < (h[i]).length
    · have hb2 : (30 : Int) < (h[i]).length := by omega
      have hm : muchG h = true := by
        unfold muchG
        have : ((h.take 20).any fun l => decide (30 < l.length)) = true := List.any_eq_true.2 ⟨h[i], by rw [List.mem_take_iff_getElem]; exact ⟨i, by omega, rfl⟩, by simpa using hb⟩
        rw [this, Bool.true_or]
      rw [hm]
      simp [e0, e3, hl1, hl2, hb2]
    · have hb2 : ¬ (30 : Int) < (h[i]).length := by omega
      simp [e0, e3, hl1, hl2, hb2]
      have := anyI_next (q := fun l : List Int => decide (30 < l.length)) hl1 hno (by simpa using hb)
      exact ⟨i + 1, by omega, ew, by omega, by omega, by simpa using this⟩
  · have hm : muchG h = decide (12 < h.length) := by
      unfold muchG
      have : ((h.take 20).any fun l => decide (30 < l.length)) = false := by
        by_cases h1 : i < h.length
        · have : i = 20 := by omega
          rw [← this]; exact hno
        · rw [List.take_of_length_le (by omega)]
          rw [List.take_of_length_le (by omega)] at hno
          exact hno
      rw [this, Bool.false_or]
    rw [hm]
    by_cases h1 : i < h.length
    · have h2 : ¬ (i : Int) < 20 := by omega
      simp [e0, e3, h1, h2]
      try omega
    · simp [e0, e3, h1]
      try omega
theorem muchG_no {h : List (List Int)} (hm : muchG h = false) : h.length ≤ 12 ∧ ∀ l, l ∈ h → l.length ≤ 30 := by
  unfold muchG at hm
  simp only [Bool.or_eq_false_iff, decide_eq_false_iff_not] at hm
  refine ⟨by omega, fun l hl => ?_⟩
  have h1 := hm.1
  rw [List.take_of_length_le (by omega), List.any_eq_false] at h1
  have := h1 l hl
  simp at this
  omega
theorem setI_snoc (l : List Int) (v : Int) : setI (l ++ [v]) = putI v (setI l) := by
  unfold setI
  rw [List.foldl_append]
  rfl
set_option maxRecDepth 100000 in
set_option maxHeartbeats 1000000 in
theorem T_GraphTells (h : List (List Int)) (v : Int) (hn0 : h.length < 4611686018427387904) (hs0 : ∀ l, l ∈ h → l.length < 4611686018427387904) : T Try.prog 9 [.sl .no (lists' h), .int .i64 v] (.bool true) := by
  have km := T_much21 h hn0 hs0
  refine T.intro (TS.body mix Try.func9 (by kernel_rfl) rfl (by kernel_rfl) (by simp) ?_)
  simp
  refine TS.callW km (Dws.self (by simp)) ?_
  cases hm : muchG h with
  | true =>
    simp
    refine TS.callW T_live21 .nil ?_
    simp
  | false =>
  obtain ⟨hn, hs⟩ := muchG_no hm
  have hs1 : ∀ l, l ∈ h → l.length ≤ 1000 := fun l hl => by have := hs l hl; omega
  have hcl := catI_le hs1
  simp
  refine vc_loop (fun i : Nat => h.length - i) (fun i e H => ∃ (own : Own) (x : AV), e 0 = .sl .no (lists' h) ∧ e 1 = .int .i64 v ∧ e 5 = .sl own (ints' (setI (catI (h.take i)))) ∧ e 7 = x ∧ e 8 = .int .i64 (degI (h.take i) v) ∧ e 9 = .bool (rightG (h.take i)) ∧ e 10 = .int .i64 i ∧ i ≤ h.length ∧ Grow1 1 H x (lists' ((h.map setI).take i))) 0 ?_ ?_
  · refine ⟨.nil, .sl .nil [], ?_⟩
    simp [catI, setI, degI, rightG, Grow1]
  rintro i e H ⟨own, x, e0, e1, e5, e7, e8, e9, e10, hi, hg⟩
  have hd := degI_le (h.take i) v
  rw [List.length_take] at hd
  by_cases hlt : i < h.length
  · have ew := wrap_next hlt (by omega)
    have hli := hs _ (List.getElem_mem hlt)
    have k1 := T_rset21 h[i] (by omega)
    have hsl := setI_len h[i]
    have k2 := T_sameList21 (setI h[i]) h[i] (by omega)
    have k3 := T_has21 h[i] v (by omega)
    have hdn := degI_next (v := v) hlt
    have hrn := rightG_next hlt
    have hnx : (h.map setI).take (i + 1) = (h.map setI).take i ++ [setI h[i]] := by rw [take_next (by simpa using hlt)]; simp
    have hln : ((h.map setI).take i).length = i := by simp; omega
    have hmi : min i h.length = i := by omega
    have hrn' : (rightG (h.take i) && decide (setI h[i] = h[i])) = rightG (h.take (i + 1)) := hrn.symm
    have hci : (catI (h.take i)).length ≤ 1000 * h.length := by
      have := catI_le (h := h.take i) fun l hl => hs1 l (List.mem_of_mem_take hl)
      rw [List.length_take] at this
      omega
    simp [e0, e1, e5, e7, e8, e9, e10, hlt]
    refine TS.callW k1 (Dws.self (by simp)) ?_
    rcases hg with ⟨ge, rfl⟩ | ⟨t, rfl, ht⟩
    · rw [avs_eq_nil] at ge
      rw [ge] at hnx
      simp [e0, e1, e5, e7, e8, e9, e10, hlt]
      refine GTK.callW (fun _ => ⟨k2, Dws.self (by simp)⟩) ?_
      simp [e0, e1, e5, e7, e8, e9, e10, hlt]
      refine TS.callW k3 (Dws.self (by simp)) ?_
      by_cases hv : v ∈ h[i]
      · rw [if_pos hv] at hdn
        have ec : IntKind.i64.wrap ((degI (h.take i) v : Int) + 1) = ((degI (h.take (i + 1)) v : Nat) : Int) := by rw [wrap_i64 (by omega) (by omega), hdn]; simp
        simp [e0, e1, e5, e7, e8, e9, e10, hlt, hv, ec]
        refine vc_loop (fun j : Nat => (h[i]).length - j) (fun j e H => ∃ (own : Own), e 0 = .sl .no (lists' h) ∧ e 1 = .int .i64 v ∧ e 5 = .sl own (ints' (setI (catI (h.take i) ++ (h[i]).take j))) ∧ e 8 = .int .i64 (degI (h.take (i + 1)) v) ∧ e 9 = .bool (rightG (h.take (i + 1))) ∧ e 10 = .int .i64 i ∧ e 11 = .int .i64 j ∧ j ≤ (h[i]).length ∧ Grow1 1 H (e 7) (lists' ((h.map setI).take (i + 1)))) 0 ?_ ?_
        · refine ⟨own, ?_⟩
          simp [e0, e1, e5, e8, e9, e10, hrn']
          exact .inr ⟨H.length, by rw [hnx]; rfl, by rw [hnx]; simp⟩
        clear e0 e1 e5 e7 e8 e9 e10 e
        rintro j e H ⟨own, e0, e1, e5, e8, e9, e10, e11, hj, hg⟩
        by_cases hjt : j < (h[i]).length
        · have ejw := wrap_next hjt (by omega)
          have hpl := setI_len (catI (h.take i) ++ (h[i]).take j)
          rw [List.length_append, List.length_take] at hpl
          have kp := T_put21 (setI (catI (h.take i) ++ (h[i]).take j)) (h[i])[j] (by omega) (setI_rises _)
          rw [← setI_snoc, List.append_assoc, ← take_next hjt] at kp
          simp [e0, e1, e5, e8, e9, e10, e11, hlt, hjt]
          refine TS.callW kp (.cons (.sl (Dws.self (by simp))) (.cons (.self (by simp)) .nil)) ?_
          simp [e0, e1, e5, e8, e9, e10, e11, hlt, hjt]
          exact ⟨j + 1, by omega, rfl, ejw, by omega, hg⟩
        · have hjl : j = (h[i]).length := by omega
          subst hjl
          rw [List.take_length, ← catI_next hlt] at e5
          simp [e0, e1, e5, e8, e9, e10, e11, hlt]
          exact ⟨i + 1, by omega, rfl, rfl, rfl, ew, by omega, hg⟩
      · rw [if_neg hv, Nat.add_zero] at hdn
        simp [e0, e1, e5, e7, e8, e9, e10, hlt, hv]
        refine vc_loop (fun j : Nat => (h[i]).length - j) (fun j e H => ∃ (own : Own), e 0 = .sl .no (lists' h) ∧ e 1 = .int .i64 v ∧ e 5 = .sl own (ints' (setI (catI (h.take i) ++ (h[i]).take j))) ∧ e 8 = .int .i64 (degI (h.take (i + 1)) v) ∧ e 9 = .bool (rightG (h.take (i + 1))) ∧ e 10 = .int .i64 i ∧ e 11 = .int .i64 j ∧ j ≤ (h[i]).length ∧ Grow1 1 H (e 7) (lists' ((h.map setI).take (i + 1)))) 0 ?_ ?_
        · refine ⟨own, ?_⟩
          simp [e0, e1, e5, e8, e9, e10, hrn', hdn]
          exact .inr ⟨H.length, by rw [hnx]; rfl, by rw [hnx]; simp⟩
        clear e0 e1 e5 e7 e8 e9 e10 e
        rintro j e H ⟨own, e0, e1, e5, e8, e9, e10, e11, hj, hg⟩
        by_cases hjt : j < (h[i]).length
        · have ejw := wrap_next hjt (by omega)
          have hpl := setI_len (catI (h.take i) ++ (h[i]).take j)
          rw [List.length_append, List.length_take] at hpl
          have kp := T_put21 (setI (catI (h.take i) ++ (h[i]).take j)) (h[i])[j] (by omega) (setI_rises _)
          rw [← setI_snoc, List.append_assoc, ← take_next hjt] at kp
          simp [e0, e1, e5, e8, e9, e10, e11, hlt, hjt]
          refine TS.callW kp (.cons (.sl (Dws.self (by simp))) (.cons (.self (by simp)) .nil)) ?_
          simp [e0, e1, e5, e8, e9, e10, e11, hlt, hjt]
          exact ⟨j + 1, by omega, rfl, ejw, by omega, hg⟩
        · have hjl : j = (h[i]).length := by omega
          subst hjl
          rw [List.take_length, ← catI_next hlt] at e5
          simp [e0, e1, e5, e8, e9, e10, e11, hlt]
          exact ⟨i + 1, by omega, rfl, rfl, rfl, ew, by omega, hg⟩
    · have htl := (List.getElem?_eq_some_iff.1 ht).1
      have ht' : H[t]? = some (.spare i 1) := by rw [avs_length, hln] at ht; exact ht
      simp [e0, e1, e5, e7, e8, e9, e10, hlt, ht', hmi]
      refine ⟨⟨by omega, by omega⟩, ?_⟩
      refine GTK.callW (fun _ => ⟨k2, Dws.self (by simp)⟩) ?_
      simp [e0, e1, e5, e7, e8, e9, e10, hlt]
      refine TS.callW k3 (Dws.self (by simp)) ?_
      by_cases hv : v ∈ h[i]
      · rw [if_pos hv] at hdn
        have ec : IntKind.i64.wrap ((degI (h.take i) v : Int) + 1) = ((degI (h.take (i + 1)) v : Nat) : Int) := by rw [wrap_i64 (by omega) (by omega), hdn]; simp
        simp [e0, e1, e5, e7, e8, e9, e10, hlt, hv, ec]
        refine vc_loop (fun j : Nat => (h[i]).length - j) (fun j e H => ∃ (own : Own), e 0 = .sl .no (lists' h) ∧ e 1 = .int .i64 v ∧ e 5 = .sl own (ints' (setI (catI (h.take i) ++ (h[i]).take j))) ∧ e 8 = .int .i64 (degI (h.take (i + 1)) v) ∧ e 9 = .bool (rightG (h.take (i + 1))) ∧ e 10 = .int .i64 i ∧ e 11 = .int .i64 j ∧ j ≤ (h[i]).length ∧ Grow1 1 H (e 7) (lists' ((h.map setI).take (i + 1)))) 0 ?_ ?_
        · refine ⟨own, ?_⟩
          simp [e0, e1, e5, e8, e9, e10, hrn']
          refine .inr ⟨t, by rw [hnx], ?_⟩
          rw [List.getElem?_set_self htl, hnx]
          simp [hmi]
        clear e0 e1 e5 e7 e8 e9 e10 e
        rintro j e H ⟨own, e0, e1, e5, e8, e9, e10, e11, hj, hg⟩
        by_cases hjt : j < (h[i]).length
        · have ejw := wrap_next hjt (by omega)
          have hpl := setI_len (catI (h.take i) ++ (h[i]).take j)
          rw [List.length_append, List.length_take] at hpl
          have kp := T_put21 (setI (catI (h.take i) ++ (h[i]).take j)) (h[i])[j] (by omega) (setI_rises _)
          rw [← setI_snoc, List.append_assoc, ← take_next hjt] at kp
          simp [e0, e1, e5, e8, e9, e10, e11, hlt, hjt]
          refine TS.callW kp (.cons (.sl (Dws.self (by simp))) (.cons (.self (by simp)) .nil)) ?_
          simp [e0, e1, e5, e8, e9, e10, e11, hlt, hjt]
          exact ⟨j + 1, by omega, rfl, ejw, by omega, hg⟩
        · have hjl : j = (h[i]).length := by omega
          subst hjl
          rw [List.take_length, ← catI_next hlt] at e5
          simp [e0, e1, e5, e8, e9, e10, e11, hlt]
          exact ⟨i + 1, by omega, rfl, rfl, rfl, ew, by omega, hg⟩
      · rw [if_neg hv, Nat.add_zero] at hdn
        simp [e0, e1, e5, e7, e8, e9, e10, hlt, hv]
        refine vc_loop (fun j : Nat => (h[i]).length - j) (fun j e H => ∃ (own : Own), e 0 = .sl .no (lists' h) ∧ e 1 = .int .i64 v ∧ e 5 = .sl own (ints' (setI (catI (h.take i) ++ (h[i]).take j))) ∧ e 8 = .int .i64 (degI (h.take (i + 1)) v) ∧ e 9 = .bool (rightG (h.take (i + 1))) ∧ e 10 = .int .i64 i ∧ e 11 = .int .i64 j ∧ j ≤ (h[i]).length ∧ Grow1 1 H (e 7) (lists' ((h.map setI).take (i + 1)))) 0 ?_ ?_
        · refine ⟨own, ?_⟩
          simp [e0, e1, e5, e8, e9, e10, hrn', hdn]
          refine .inr ⟨t, by rw [hnx], ?_⟩
          rw [List.getElem?_set_self htl, hnx]
          simp [hmi]
        clear e0 e1 e5 e7 e8 e9 e10 e
        rintro j e H ⟨own, e0, e1, e5, e8, e9, e10, e11, hj, hg⟩
        by_cases hjt : j < (h[i]).length
        · have ejw := wrap_next hjt (by omega)
          have hpl := setI_len (catI (h.take i) ++ (h[i]).take j)
          rw [List.length_append, List.length_take] at hpl
          have kp := T_put21 (setI (catI (h.take i) ++ (h[i]).take j)) (h[i])[j] (by omega) (setI_rises _)
          rw [← setI_snoc, List.append_assoc, ← take_next hjt] at kp
          simp [e0, e1, e5, e8, e9, e10, e11, hlt, hjt]
          refine TS.callW kp (.cons (.sl (Dws.self (by simp))) (.cons (.self (by simp)) .nil)) ?_
          simp [e0, e1, e5, e8, e9, e10, e11, hlt, hjt]
          exact ⟨j + 1, by omega, rfl, ejw, by omega, hg⟩
        · have hjl : j = (h[i]).length := by omega
          subst hjl
          rw [List.take_length, ← catI_next hlt] at e5
          simp [e0, e1, e5, e8, e9, e10, e11, hlt]
          exact ⟨i + 1, by omega, rfl, rfl, rfl, ew, by omega, hg⟩
  · have hil : i = h.length := by omega
    subst hil
    rw [List.take_length] at e5 e8 e9
    rw [List.take_of_length_le (by simp)] at hg
    obtain ⟨own2, rfl⟩ := hg.own
    have hsl := setI_len (catI h)
    have k1 := T_vertices h (by omega) hs1
    have k2 := T_sameList21 (setI (catI h)) (setI (catI h)) (by omega)
    have k3 := T_degree h v (by omega) hs1
    have k4 := T_gright h (by omega) hs1
    have k5 := T_gsets h (by omega) hs1
    have k6 := T_same21 (h.map setI) (h.map setI) (by rw [List.length_map]; omega) (by
      intro l hl
      obtain ⟨a, ha, rfl⟩ := List.mem_map.1 hl
      have := setI_len a
      have := hs a ha
      omega)
    have k7 := T_gparts h (by omega) (fun l hl => by have := hs l hl; omega)
    have k8 := T_rparts21 h (by omega) hs1
    have hpl : (partsF h).length ≤ h.length := by
      unfold partsF
      rw [csA_length]
      exact Nat.le_trans (List.length_filter_le _ _) (by simp)
    have k9 := T_same21 ((partsF h).map intsN) ((partsF h).map intsN) (by rw [List.length_map]; omega) (by
      intro l hl
      obtain ⟨a, ha, rfl⟩ := List.mem_map.1 hl
      unfold partsF csA at ha
      obtain ⟨b, _, rfl⟩ := List.mem_map.1 ha
      unfold intsN clA
      have := List.length_filter_le (fun k => decide ((plR (List.range h.length) (pA h h.length)).getD k 0 = b)) (List.range h.length)
      simp at this ⊢
      omega)
    simp at k2 k6 k9
    have hpn : slA (slA natA) (partsF h) = .sl .no (lists' ((partsF h).map intsN)) := by rw [← lists_nats]
    rw [hpn] at k7 k8
    simp [e0, e1, e5, e7, e8, e9, e10]
    refine TS.callW k1 (Dws.self (by simp)) ?_
    simp [e0, e1, e5, e7, e8, e9, e10]
    refine TS.callW k2 (.cons (.self (by simp)) (.cons (.sl (Dws.self (by simp))) .nil)) ?_
    simp [e0, e1, e5, e7, e8, e9, e10]
    refine GTK.callW (fun _ => ⟨k3, Dws.self (by simp)⟩) ?_
    simp [e0, e1, e5, e7, e8, e9, e10]
    refine GTK.callW (fun _ => ⟨k4, Dws.self (by simp)⟩) ?_
    simp [e0, e1, e5, e7, e8, e9, e10]
    refine GTK.callW (fun _ => ⟨k5, Dws.self (by simp)⟩) ?_
    simp [e0, e1, e5, e7, e8, e9, e10]
    refine GTK.callW (fun _ => ⟨k6, .cons (.self (by simp)) (.cons (.sl (Dws.self (by simp))) .nil)⟩) ?_
    simp [e0, e1, e5, e7, e8, e9, e10]
    refine GTK.callW (fun _ => ⟨k7, Dws.self (by simp)⟩) ?_
    simp [e0, e1, e5, e7, e8, e9, e10]
    refine GTK.callW (fun _ => ⟨k8, Dws.self (by simp)⟩) ?_
    simp [e0, e1, e5, e7, e8, e9, e10]
    refine GTK.callW (fun _ => ⟨k9, Dws.self (by simp)⟩) ?_
    simp [e0, e1, e5, e7, e8, e9, e10]
    refine GTK.callW (fun _ => ⟨T_live21, .nil⟩) ?_
    simp
theorem lists_in {cs : List AV} (h : Sh Try.prog 81 cs) : ∃ l : List (List Int), cs = [.sl .no (lists' l)] ∧ l.length < 4611686018427387904 ∧ ∀ x, x ∈ l → x.length < 4611686018427387904 := by
  obtain ⟨ys, rfl, hy, b⟩ := h.sl_of un_81 ag_53
  obtain ⟨l, e1, e2, e3⟩ := list_in (f := slA (AV.int .i64)) (g := mkAV false) (Q := fun x => x.length < 4611686018427387904) (fun y hy' => by
    obtain ⟨x, h1, _, h3⟩ := ints_in (hy y hy')
    exact ⟨x, by rw [h1]; rfl, h3⟩)
  have hb : 1 ≤ Try.prog.bytesOf 53 := by decide +kernel
  have hr := reach_lt'
  have := Nat.mul_le_mul_left ys.length hb
  exact ⟨l, by rw [e1]; rfl, by omega, e3⟩
theorem S_GraphTells {xs : List AV} (h : ShA Try.prog [81, 3] xs) : T Try.prog 9 xs (.bool true) := by
  obtain ⟨y, r, rfl, h0, h⟩ := h.cons_of ag_81
  obtain ⟨y, r, rfl, h1, h⟩ := h.cons_of ag_3
  obtain rfl := h.nil_of
  obtain ⟨a, rfl, ha, hb⟩ := lists_in h0
  obtain ⟨v, rfl, _⟩ := h1.int_of un_3
  exact T_GraphTells a v ha hb
end Go.Proofs.Ytaahlhhpmooliaa.PL
