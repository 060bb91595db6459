/- The laws of classes that join. -/
import Derived.Test.YtgmhmdmfnmlhmabFUf3
import Derived.Test.YtgmhmdmfnmlhmabFMuch
namespace Go.Proofs.Ytgmhmdmfnmlhmab.PL
open Go.Proofs
set_option linter.unusedVariables false
set_option linter.unusedSimpArgs false
theorem clA_start {ρ : Nat → Nat} {i : Nat} (hle : ∀ k, k < i → ρ k ≤ k) : clA ρ i i = [] := by
  unfold clA
  rw [List.filter_eq_nil_iff]
  intro k hk
  have h1 := hle k (List.mem_range.1 hk)
  have h2 := List.mem_range.1 hk
  simp
  omega
theorem T_rall (r : List Nat) (hl : r.length ≤ 1000) (hle : ∀ k, k < r.length → r.getD k 0 ≤ k) : T Try.prog 25 [.sl .no (nats' r)] (slA (slA natA) (csA (fun k => r.getD k 0) r.length)) := by
  obtain ⟨ρ, hρ⟩ : ∃ ρ : Nat → Nat, ρ = fun k => r.getD k 0 := ⟨_, rfl⟩
  have hg : ∀ k (h : k < r.length), r[k] = ρ k := fun k h => by rw [hρ]; simp [h]
  have hle' : ∀ k, k < r.length → ρ k ≤ k := fun k h => by rw [hρ]; exact hle k h
  rw [← hρ]
  clear hρ hle
  obtain ⟨n, hn⟩ : ∃ n, r.length = n := ⟨_, rfl⟩
  rw [hn] at hl hle' ⊢
  refine T.introF (TS.body mix Try.func25 (by kernel_rfl) rfl (by kernel_rfl) (by simp) ?_)
  simp
  refine vc_loop (fun i : Nat => n - i) (fun i e H => ∃ l : List (Own × List Nat), e 0 = .sl .no (nats' r) ∧ e 4 = .int .i64 i ∧ i ≤ n ∧ Grow1 1 H (e 3) (avs (oslA natA) l) ∧ l.map Prod.snd = (rsA ρ i).map (clA ρ n)) 0 ?_ ?_
  · exact ⟨[], by simp [Grow1, rsA]⟩
  rintro i e H ⟨l, h0, h4, hi, hg3, hl3⟩
  by_cases h : i < n
  · have ew := wrap_next h (by omega)
    have hgi := hg i (by omega)
    have hll : l.length ≤ i := by
      have := congrArg List.length hl3
      simp at this
      rw [this]
      exact Nat.le_trans (List.length_filter_le _ _) (by simp)
    simp [h0, h4, h, hn, hgi]
    refine condK_of (fun q => ?_) (fun q => ?_)
    · simp at q
      simp [h0, h4, h, hn]
      exact ⟨i + 1, by omega, ew, by omega, l, hg3, by rw [rsA_succ, if_neg (by omega)]; exact hl3⟩
    · simp at q
      have q' : ρ i = i := by omega
      simp [h0, h4, h, hn]
      refine vc_loop (fun k : Nat => n - k) (fun k e' H' => ∃ J : List HO, e' 0 = .sl .no (nats' r) ∧ e' 3 = e 3 ∧ e' 4 = .int .i64 i ∧ e' 6 = .int .i64 k ∧ i ≤ k ∧ k ≤ n ∧ GrowB 1 H J (e' 5) (nats' (clA ρ k i)) ∧ H' = H ++ J) i ?_ ?_
      · exact ⟨[], by simp [h0], by simp, by simp [h4], by simp, by omega, by omega, by rw [clA_start (fun k hk => hle' k (by omega))]; simp [GrowB], by simp⟩
      rintro k e' H' ⟨J, h0', h3', h4', h6', hik, hk, hg5, rfl⟩
      by_cases hkn : k < n
      · have ewk := wrap_next hkn (by omega)
        have hgk := hg k (by omega)
        have hcl : (clA ρ k i).length ≤ k := Nat.le_trans (List.length_filter_le _ _) (by simp)
        have hcs := clA_succ (ρ := ρ) (a := k) (i := i)
        generalize clA ρ k i = c at *
        simp [h0', h3', h4', h6', hkn, hn, hgk]
        refine condK_of (fun q2 => ?_) (fun q2 => ?_)
        · simp at q2
          rw [if_pos (by omega)] at hcs
          rcases hg5 with ⟨ge, hg5⟩ | ⟨t, hg5, ht⟩
          · rw [avs_eq_nil] at ge
            simp [h0', h3', h4', h6', hkn, hn, hg5]
            refine ⟨k + 1, by omega, ewk, by omega, by omega, ?_⟩
            rw [hcs]
            exact GrowB.first (f := natA) ge (by simp)
          · have ht' : J[t]? = some (.spare c.length 1) := by simpa using ht
            simp [h0', h3', h4', h6', hkn, hn, hg5, app_atn, app_setn, ht']
            refine ⟨by omega, k + 1, by omega, ewk, by omega, by omega, ?_⟩
            rw [hcs]
            exact GrowB.more ht rfl
        · simp at q2
          rw [if_neg (by omega)] at hcs
          simp [h0', h3', h4', h6', hkn, hn]
          exact ⟨k + 1, by omega, ewk, by omega, by omega, by rw [hcs]; exact hg5⟩
      · have : k = n := by omega
        subst this
        obtain ⟨own, hg5'⟩ := hg5.own
        have hg3' := Grow1.app (L := J) hg3
        rw [← h3'] at hg3'
        have hsn : ∀ l' : List (Own × List Nat), l' = l ++ [(own, clA ρ k i)] → l'.map Prod.snd = (rsA ρ (i + 1)).map (clA ρ k) := by
          rintro _ rfl
          rw [rsA_succ, if_pos q', List.map_append, List.map_append, hl3]; rfl
        rcases hg3' with ⟨ge, hg3'⟩ | ⟨t, hg3', ht⟩
        · rw [avs_eq_nil] at ge
          simp [h0', h4', h6', hn, hg5', hg3']
          refine ⟨i + 1, by omega, ew, by omega, l ++ [(own, clA ρ k i)], ?_, hsn _ rfl⟩
          have := Grow1.first (f := oslA natA) (a := (own, clA ρ k i)) (sz := 1) (H := H ++ J) ge rfl
          simpa using this
        · have ht' : (H ++ J)[t]? = some (.spare l.length 1) := by simpa using ht
          simp [h0', h4', h6', hn, hg5', hg3', ht']
          refine ⟨by omega, i + 1, by omega, ew, by omega, l ++ [(own, clA ρ k i)], ?_, hsn _ rfl⟩
          have := Grow1.more (f := oslA natA) (a := (own, clA ρ k i)) ht (n := l.length + 1) rfl
          rw [show avs (oslA natA) l ++ [AV.sl own (nats' (clA ρ k i))] = avs (oslA natA) (l ++ [(own, clA ρ k i)]) from avs_concat (f := oslA natA) (a := (own, clA ρ k i))]
          exact this
  · have : i = n := by omega
    subst this
    obtain ⟨own, hg3⟩ := hg3.own
    simp [h0, h4, hn, hg3]
    exact Frz.slosl hl3
theorem UfS.ofAt {H : List HO} {C R n : Nat} {up : List Nat} (h : UfAt H C R up) (ok : UfOk up) (hn : up.length = n) : UfS H C R n (rt up) := ⟨up, h, ok, hn, fun _ _ => rfl⟩
theorem UfS.of06 {H : List HO} {C R n : Nat} {up r : List Nat} (h : UfAt H C R up) (ok : UfOk up) (hs : Same06 up r) (hn : up.length = n) : UfS H C R n (fun k => r.getD k 0) := ⟨up, h, ok, hn, fun k hk => (hs.2 k (by omega)).symm⟩
theorem rt_rho {up : List Nat} (ok : UfOk up) (n : Nat) : ∀ k, k < n → rt up k ≤ k ∧ rt up (rt up k) = rt up k := fun k _ => ⟨rt_le ok k, rt_root (rt_fix ok k)⟩
theorem rho06 {up r : List Nat} (ok : UfOk up) (h : Same06 up r) : ∀ k, k < up.length → r.getD k 0 ≤ k ∧ r.getD (r.getD k 0) 0 = r.getD k 0 := fun k hk => by
  have h1 := rt_le ok k
  rw [h.2 k hk, h.2 _ (by omega)]
  exact ⟨h1, rt_root (rt_fix ok k)⟩
set_option maxRecDepth 4000 in
theorem T_live06 : T Try.prog 15 [] (.bool true) := by
  have a1 := new_at [] 4
  have a2 := range_ok 4
  have j := jo_ok a2 3 1
  have f2 := S_join (newH [] 4) 0 1 (List.range 4) 3 1 a1 a2 (by omega) (by simp)
  have a3 : UfS (joH (newH [] 4) 1 (List.range 4) 3 1) 0 1 4 (rt (joU (List.range 4) 3 1)) := UfS.ofAt (jo_at a1 a2 (by simp) 3 1) j.2.1 (by rw [j.1]; simp)
  rw [show joB (List.range 4) 3 1 = true by decide] at f2
  have f3 := S_findE 3 a3 (by omega) (by omega)
  rw [show fvR 4 (rt (joU (List.range 4) 3 1)) 3 = 1 by decide] at f3
  refine T.intro (TS.body mix Try.func15 (by kernel_rfl) rfl (by kernel_rfl) (by simp) ?_)
  simp
  refine TS.pt (S_new [] 4) ?_
  simp
  refine TS.pt f2 ?_
  simp
  refine GTK.yes (TS.ptE f3 ?_)
  rintro r H' ⟨rfl, hs⟩
  simp
  refine GTK.yes (TS.ptE (S_count _ _ _ _ _ hs.st (rt_rho j.2.1 4) (by omega) (by omega)) ?_)
  rintro r H'' ⟨rfl, hs2⟩
  rw [show rsA (rt (joU (List.range 4) 3 1)) 4 = [0, 1, 2] by decide]
  simp
def inR' (k : Nat) (a : Int) : Bool := decide (0 ≤ a) && decide (a < k)
set_option maxHeartbeats 1000000 in
theorem T_UfJoins (m : Nat) (ps : List (Int × Int)) (a b : Int) (hm : m < 256) (hl : ps.length < 4611686018427387904) : T Try.prog 3 [.int .u8 m, .sl .no (avs pairA ps), .int .i64 a, .int .i64 b] (.bool true) := by
  have hn : newN ((m % 40 : Nat) : Int) = m % 40 := by unfold newN; omega
  have f1 := S_new [] ((m % 40 : Nat) : Int)
  rw [hn] at f1
  have f2 := T_rnew (m % 40) (by omega)
  have a1 := new_at [] (m % 40)
  have a2 := range_ok (m % 40)
  have a3 := same_new (m % 40)
  have a4 : (List.range (m % 40)).length = m % 40 := by simp
  have a5 : m % 40 < 40 := by omega
  have ew0 : (IntKind.i64.wrap (m : Int)).tmod 40 = ((m % 40 : Nat) : Int) := by
    rw [wrap_i64 (by omega) (by omega), Int.tmod_eq_emod_of_nonneg (by omega)]; rfl
  refine T.intro (TS.bodyM [100010, 2001003, 1100903, 1101303, 100014, 2001403, 1141203, 1141603] mix Try.func3 (by kernel_rfl) rfl (by kernel_rfl) (by simp) ?_)
  simp
  refine condK_of (fun q => ?_) (fun q => ?_)
  · simp
    (first | refine TS.call' (T_live06) (by simp) ?_ | refine TDK.call' (T_live06) (by simp) ?_ | refine GTK.call (fun _ => ⟨T_live06, by simp⟩) ?_ | refine TS.call (T_live06) (by simp) ?_ | refine TDK.call (T_live06) (by simp) ?_); simp
  simp at q
  simp [ew0]
  refine TS.pt f1 ?_
  simp [ew0]
  refine TS.call f2 (by simp) ?_
  simp
  generalize newH [] (m % 40) = H1 at *
  generalize List.range (m % 40) = u0 at *
  generalize hmn : m % 40 = n at *
  clear f1 f2 hn ew0
  simp at a1
  refine vc_loop (fun i : Nat => ps.length - i) (fun i e H2 => ∃ up r : List Nat, e 1 = .sl .no (avs pairA ps) ∧ e 2 = .int .i64 a ∧ e 3 = .int .i64 b ∧ e 9 = .int .i64 n ∧ e 10 = .ptr 0 0 ∧ e 11 = .sl .no (nats' r) ∧ e 12 = .int .i64 i ∧ i ≤ ps.length ∧ UfAt H2 0 1 up ∧ UfOk up ∧ Same06 up r ∧ up.length = n) 0 ?_ ?_
  · exact ⟨u0, u0, by simp, by simp, by simp, by simp [← hmn], by simp, by simp, by simp, by omega, a1, a2, a3, a4⟩
  rintro i e H2 ⟨up, r, h1, h2, h3, h9, h10, h11, h12, hi, hat, hok, hsm, hlen⟩
  by_cases h : i < ps.length
  · have ew := wrap_next h (by omega)
    generalize hp : ps[i] = p at *
    obtain ⟨x, y⟩ := p
    have fj := S_join H2 0 1 up x y hat hok (by omega) (by omega)
    have frj := T_rjoin r x y (by rw [hsm.1]; omega)
    have j := jo_ok hok x y
    have hrl := hsm.1
    rw [hlen] at hrl
    have ea := fv_of hsm x
    have eb := fv_of hsm y
    have eJ : joB up x y = ((decide (0 ≤ x) && decide (0 ≤ y) && decide (x < n) && decide (y < n)) && !decide (((r.getD x.toNat 0 : Nat) : Int) = (r.getD y.toNat 0 : Nat))) := by
      unfold joB
      rw [ea, eb]
      unfold inR
      rw [hrl]
      by_cases c1 : 0 ≤ x ∧ x < n
      · by_cases c2 : 0 ≤ y ∧ y < n
        · simp [c1, c2]; try omega
        · have : (decide (0 ≤ y) && decide (y < (n : Int))) = false := by simp; omega
          simp [c1, this]; try omega
      · have : (decide (0 ≤ x) && decide (x < (n : Int))) = false := by simp; omega
        simp [this]; try omega
    simp [h1, h2, h3, h9, h10, h11, h12, h, hp]
    refine ⟨by omega, by omega, TWK.call fj ?_⟩
    generalize hg : (decide (0 ≤ x) && decide (0 ≤ y) && decide (x < (n : Int)) && decide (y < (n : Int))) = g at *
    cases g with
    | false =>
      simp [h1, h2, h3, h9, h10, h11, h12, h, hp, eJ, -ifAV]
      refine TS.call frj (by simp) ?_
      simp [h1, h2, h3, h9, h10, h11, h12, h, hp]
      exact ⟨i + 1, by omega, joU up x y, rjo r x y, rfl, ew, by omega, jo_at hat hok (by omega) _ _, j.2.1, same_join hok hsm _ _, by rw [j.1]; exact hlen⟩
    | true =>
      simp at hg
      obtain ⟨x, rfl⟩ : ∃ k : Nat, x = k := ⟨x.toNat, by omega⟩
      obtain ⟨y, rfl⟩ : ∃ k : Nat, y = k := ⟨y.toNat, by omega⟩
      have hx : x < r.length := by omega
      have hy : y < r.length := by omega
      simp [hx, hy] at eJ
      simp [h1, h2, h3, h9, h10, h11, h12, h, hp, hx, hy, eJ]
      refine TS.call frj (by simp) ?_
      simp [h1, h2, h3, h9, h10, h11, h12, h, hp]
      exact ⟨i + 1, by omega, joU up x y, rjo r x y, rfl, ew, by omega, jo_at hat hok (by omega) _ _, j.2.1, same_join hok hsm _ _, by rw [j.1]; exact hlen⟩
  · have : i = ps.length := by omega
    subst this
    have fs := S_same H2 0 1 up a b hat hok (by omega) (by omega)
    have k1 := fu_ok hok a
    have k2 := fu_at hat hok (by omega) a
    have hS : UfS H2 0 1 n (fun k => r.getD k 0) := UfS.of06 hat hok hsm hlen
    have hS2 : UfS (smH H2 1 up a b) 0 1 n (fun k => r.getD k 0) := by
      unfold smH
      split
      · have s1 := fH_step hat hok (show (0 : Nat) ≠ 1 by omega) hlen (ρ := fun k => r.getD k 0) (fun k hk => (hsm.2 k (by omega)).symm) a
        exact (fH_step k2 k1.2.1 (show (0 : Nat) ≠ 1 by omega) (by rw [k1.1]; exact hlen) (ρ := fun k => r.getD k 0) (fun k hk => by rw [k1.2.2]; exact (hsm.2 k (by omega)).symm) b).st
      · exact hS
    have ff := S_findE a hS2 (by omega) (by omega)
    have hrl := hsm.1
    rw [hlen] at hrl
    have ea := fv_of hsm a
    have eb := fv_of hsm b
    simp [h1, h2, h3, h9, h10, h11, h12]
    refine TWK.call fs ?_
    generalize hga : (decide (0 ≤ a) && decide (a < (n : Int))) = ga at *
    generalize hgb : (decide (0 ≤ b) && decide (b < (n : Int))) = gb at *
    have eS : smB up a b = (ga && gb && decide (((r.getD a.toNat 0 : Nat) : Int) = (r.getD b.toNat 0 : Nat))) := by
      unfold smB
      rw [ea, eb]
      unfold inR
      rw [hrl, hlen, hga, hgb]
      cases ga <;> cases gb <;> simp
    have last : ∀ H', UfStep (smH H2 1 up a b) H' 0 1 n (fun k => r.getD k 0) → TS Try.prog 22 [.ptr 0 0] H' (pt (.int .i64 n) H') := fun H' hs => by
      obtain ⟨up', u1, u2⟩ := hs.st.at
      have := S_len H' 0 1 up' u1 (by omega)
      rwa [u2] at this
    cases ga with
    | false =>
      have ev : fvR n (fun k => r.getD k 0) a = -1 := by unfold fvR; rw [if_neg]; simp at hga; omega
      rw [ev] at ff
      simp [h1, h2, h3, h9, h10, h11, h12, eS, -ifAV]
      refine TS.ptE ff ?_
      rintro v H' ⟨rfl, hs⟩
      simp [h1, h2, h3, h9, h10, h11, h12]
      refine GTK.yes (TS.pt (last H' hs) ?_)
      simp [h1, h2, h3, h9, h10, h11, h12]
      refine GTK.yes (TS.call' T_live06 (by simp) ?_)
      simp
    | true =>
      simp at hga
      obtain ⟨a, rfl⟩ : ∃ k : Nat, a = k := ⟨a.toNat, by omega⟩
      have ha : a < r.length := by omega
      have ev : fvR n (fun k => r.getD k 0) a = (r[a] : Nat) := by unfold fvR; rw [if_pos (by omega)]; simp [ha]
      rw [ev] at ff
      cases gb with
      | false =>
        simp [h1, h2, h3, h9, h10, h11, h12, eS, ha, -ifAV]
        refine TS.ptE ff ?_
        rintro v H' ⟨rfl, hs⟩
        simp [h1, h2, h3, h9, h10, h11, h12]
        refine GTK.yes (TS.pt (last H' hs) ?_)
        simp [h1, h2, h3, h9, h10, h11, h12]
        refine GTK.yes (TS.call' T_live06 (by simp) ?_)
        simp
      | true =>
        simp at hgb
        obtain ⟨b, rfl⟩ : ∃ k : Nat, b = k := ⟨b.toNat, by omega⟩
        have hb : b < r.length := by omega
        simp [ha, hb] at eS
        simp [h1, h2, h3, h9, h10, h11, h12, eS, ha, hb, -ifAV]
        refine TS.ptE ff ?_
        rintro v H' ⟨rfl, hs⟩
        simp [h1, h2, h3, h9, h10, h11, h12]
        refine GTK.yes (TS.pt (last H' hs) ?_)
        simp [h1, h2, h3, h9, h10, h11, h12]
        refine GTK.yes (TS.call' T_live06 (by simp) ?_)
        simp
theorem Pair_in {cs : List AV} (h : Sh Try.prog 29 cs) : ∃ p : Int × Int, mkAV true cs = pairA p := by
  obtain ⟨hl, hf⟩ := h.struct_of ft_29
  obtain ⟨x, y, rfl⟩ : ∃ x y, cs = [x, y] := by
    match cs, hl with
    | [x, y], _ => exact ⟨x, y, rfl⟩
  obtain ⟨k, h1, w1⟩ := (hf (3, 0, 1) (by simp)).int_of un_3
  obtain ⟨i, h2, w2⟩ := (hf (3, 1, 1) (by simp)).int_of un_3
  simp at h1 h2
  subst h1; subst h2
  exact ⟨(k, i), rfl⟩
theorem pairs_in {cs : List AV} (h : Sh Try.prog 22 cs) : ∃ l : List (Int × Int), cs = [.sl .no (avs pairA l)] ∧ l.length < 4611686018427387904 := by
  obtain ⟨ys, rfl, hy, b⟩ := h.sl_of un_22 ag_29
  obtain ⟨l, e, el, hl⟩ := list_in (f := pairA) (g := mkAV true) (Q := fun _ => True) (fun y hy' => by
    obtain ⟨p, e⟩ := Pair_in (hy y hy')
    exact ⟨p, e, trivial⟩)
  have hb : 1 ≤ Try.prog.bytesOf 29 := by decide +kernel
  have hr := reach_lt
  have := Nat.mul_le_mul_left ys.length hb
  exact ⟨l, by rw [e]; rfl, by omega⟩
theorem S_UfJoins {xs : List AV} (h : ShA Try.prog [5, 22, 3, 3] xs) : T Try.prog 3 xs (.bool true) := by
  obtain ⟨y, r, rfl, h0, h⟩ := h.cons_of ag_5
  obtain ⟨y, r, rfl, h1, h⟩ := h.cons_of ag_22
  obtain ⟨y, r, rfl, h2, h⟩ := h.cons_of ag_3
  obtain ⟨y, r, rfl, h3, h⟩ := h.cons_of ag_3
  obtain rfl := h.nil_of
  obtain ⟨m, rfl, hm⟩ := h0.int_of un_5
  obtain ⟨ps, rfl, hps⟩ := pairs_in h1
  obtain ⟨a, rfl, _⟩ := h2.int_of un_3
  obtain ⟨b, rfl, _⟩ := h3.int_of un_3
  have hm := u8_wf hm
  obtain ⟨m, rfl⟩ : ∃ k : Nat, m = k := ⟨m.toNat, by omega⟩
  exact T_UfJoins m ps a b (by omega) hps
end Go.Proofs.Ytgmhmdmfnmlhmab.PL
