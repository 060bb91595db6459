/- The laws of classes that join. -/
import Derived.Test.YtaahlhhpmooliaaFUf3
import Derived.Test.YtaahlhhpmooliaaFMuch
namespace Go.Proofs.Ytaahlhhpmooliaa.PL
open Go.Proofs
set_option linter.unusedVariables false
set_option linter.unusedSimpArgs false
theorem clA_start {ρ : Nat → Nat} {i : Nat} (hle : ∀ k, k < i → ρ k ≤ k) : clA ρ i i = [] := by
  unfold clA
  rw [List.filter_eq_nil_iff]
  intro k hk
  have h1 := hle k (List.mem_range.1 hk)
  have h2 := List.mem_range.1 hk
  simp
  omega
theorem T_rall (r : List Nat) (hl : r.length ≤ 1000) (hle : ∀ k, k < r.length → r.getD k 0 ≤ k) : T Try.prog 113 [.sl .no (nats' r)] (slA (slA natA) (csA (fun k => r.getD k 0) r.length)) := by
  obtain ⟨ρ, hρ⟩ : ∃ ρ : Nat → Nat, ρ = fun k => r.getD k 0 := ⟨_, rfl⟩
  have hg : ∀ k (h : k < r.length), r[k] = ρ k := fun k h => by rw [hρ]; simp [h]
  have hle' : ∀ k, k < r.length → ρ k ≤ k := fun k h => by rw [hρ]; exact hle k h
  rw [← hρ]
  clear hρ hle
  obtain ⟨n, hn⟩ : ∃ n, r.length = n := ⟨_, rfl⟩
  rw [hn] at hl hle' ⊢
  refine T.introF (TS.body mix Try.func113 (by kernel_rfl) rfl (by kernel_rfl) (by simp) ?_)
  simp
  refine vc_loop (fun i : Nat => n - i) (fun i e H => ∃ l : List (Own × List Nat), e 0 = .sl .no (nats' r) ∧ e 4 = .int .i64 i ∧ i ≤ n ∧ Grow1 1 H (e 3) (avs (oslA natA) l) ∧ l.map Prod.snd = (rsA ρ i).map (clA ρ n)) 0 ?_ ?_
  · exact ⟨[], by simp [Grow1, rsA]⟩
  rintro i e H ⟨l, h0, h4, hi, hg3, hl3⟩
  by_cases h : i < n
  · have ew := wrap_next h (by omega)
    have hgi := hg i (by omega)
    have hll : l.length ≤ i := by
      have := congrArg List.length hl3
      simp at this
      rw [this]
      exact Nat.le_trans (List.length_filter_le _ _) (by simp)
    simp [h0, h4, h, hn, hgi]
    refine condK_of (fun q => ?_) (fun q => ?_)
    · simp at q
      simp [h0, h4, h, hn]
      exact ⟨i + 1, by omega, ew, by omega, l, hg3, by rw [rsA_succ, if_neg (by omega)]; exact hl3⟩
    · simp at q
      have q' : ρ i = i := by omega
      simp [h0, h4, h, hn]
      refine vc_loop (fun k : Nat => n - k) (fun k e' H' => ∃ J : List HO, e' 0 = .sl .no (nats' r) ∧ e' 3 = e 3 ∧ e' 4 = .int .i64 i ∧ e' 6 = .int .i64 k ∧ i ≤ k ∧ k ≤ n ∧ GrowB 1 H J (e' 5) (nats' (clA ρ k i)) ∧ H' = H ++ J) i ?_ ?_
      · exact ⟨[], by simp [h0], by simp, by simp [h4], by simp, by omega, by omega, by rw [clA_start (fun k hk => hle' k (by omega))]; simp [GrowB], by simp⟩
      rintro k e' H' ⟨J, h0', h3', h4', h6', hik, hk, hg5, rfl⟩
      by_cases hkn : k < n
      · have ewk := wrap_next hkn (by omega)
        have hgk := hg k (by omega)
        have hcl : (clA ρ k i).length ≤ k := Nat.le_trans (List.length_filter_le _ _) (by simp)
        have hcs := clA_succ (ρ := ρ) (a := k) (i := i)
        generalize clA ρ k i = c at *
        simp [h0', h3', h4', h6', hkn, hn, hgk]
        refine condK_of (fun q2 => ?_) (fun q2 => ?_)
        · simp at q2
          rw [if_pos (by omega)] at hcs
          rcases hg5 with ⟨ge, hg5⟩ | ⟨t, hg5, ht⟩
          · rw [avs_eq_nil] at ge
            simp [h0', h3', h4', h6', hkn, hn, hg5]
            refine ⟨k + 1, by omega, ewk, by omega, by omega, ?_⟩
            rw [hcs]
            exact GrowB.first (f := natA) ge (by simp)
          · have ht' : J[t]? = some (.spare c.length 1) := by simpa using ht
            simp [h0', h3', h4', h6', hkn, hn, hg5, app_atn, app_setn, ht']
            refine ⟨by omega, k + 1, by omega, ewk, by omega, by omega, ?_⟩
            rw [hcs]
            exact GrowB.more ht rfl
        · simp at q2
          rw [if_neg (by omega)] at hcs
          simp [h0', h3', h4', h6', hkn, hn]
          exact ⟨k + 1, by omega, ewk, by omega, by omega, by rw [hcs]; exact hg5⟩
      · have : k = n := by omega
        subst this
        obtain ⟨own, hg5'⟩ := hg5.own
        have hg3' := Grow1.app (L := J) hg3
        rw [← h3'] at hg3'
        have hsn : ∀ l' : List (Own × List Nat), l' = l ++ [(own, clA ρ k i)] → l'.map Prod.snd = (rsA ρ (i + 1)).map (clA ρ k) := by
          rintro _ rfl
          rw [rsA_succ, if_pos q', List.map_append, List.map_append, hl3]; rfl
        rcases hg3' with ⟨ge, hg3'⟩ | ⟨t, hg3', ht⟩
        · rw [avs_eq_nil] at ge
          simp [h0', h4', h6', hn, hg5', hg3']
          refine ⟨i + 1, by omega, ew, by omega, l ++ [(own, clA ρ k i)], ?_, hsn _ rfl⟩
          have := Grow1.first (f := oslA natA) (a := (own, clA ρ k i)) (sz := 1) (H := H ++ J) ge rfl
          simpa using this
        · have ht' : (H ++ J)[t]? = some (.spare l.length 1) := by simpa using ht
          simp [h0', h4', h6', hn, hg5', hg3', ht']
          refine ⟨by omega, i + 1, by omega, ew, by omega, l ++ [(own, clA ρ k i)], ?_, hsn _ rfl⟩
          have := Grow1.more (f := oslA natA) (a := (own, clA ρ k i)) ht (n := l.length + 1) rfl
          rw [show avs (oslA natA) l ++ [AV.sl own (nats' (clA ρ k i))] = avs (oslA natA) (l ++ [(own, clA ρ k i)]) from avs_concat (f := oslA natA) (a := (own, clA ρ k i))]
          exact this
  · have : i = n := by omega
    subst this
    obtain ⟨own, hg3⟩ := hg3.own
    simp [h0, h4, hn, hg3]
    exact Frz.slosl hl3
theorem UfS.ofAt {H : List HO} {C R n : Nat} {up : List Nat} (h : UfAt H C R up) (ok : UfOk up) (hn : up.length = n) : UfS H C R n (rt up) := ⟨up, h, ok, hn, fun _ _ => rfl⟩
theorem UfS.of06 {H : List HO} {C R n : Nat} {up r : List Nat} (h : UfAt H C R up) (ok : UfOk up) (hs : Same06 up r) (hn : up.length = n) : UfS H C R n (fun k => r.getD k 0) := ⟨up, h, ok, hn, fun k hk => (hs.2 k (by omega)).symm⟩
theorem rt_rho {up : List Nat} (ok : UfOk up) (n : Nat) : ∀ k, k < n → rt up k ≤ k ∧ rt up (rt up k) = rt up k := fun k _ => ⟨rt_le ok k, rt_root (rt_fix ok k)⟩
theorem rho06 {up r : List Nat} (ok : UfOk up) (h : Same06 up r) : ∀ k, k < up.length → r.getD k 0 ≤ k ∧ r.getD (r.getD k 0) 0 = r.getD k 0 := fun k hk => by
  have h1 := rt_le ok k
  rw [h.2 k hk, h.2 _ (by omega)]
  exact ⟨h1, rt_root (rt_fix ok k)⟩
def inR' (k : Nat) (a : Int) : Bool := decide (0 ≤ a) && decide (a < k)


end Go.Proofs.Ytaahlhhpmooliaa.PL
