/- In whatever order: classes that join. -/
import Derived.Test.YtgmhmdmfnmlhmabFUf4
namespace Go.Proofs.Ytgmhmdmfnmlhmab.PL
open Go.Proofs
set_option linter.unusedVariables false
set_option linter.unusedSimpArgs false
/-! the order plays no part -/
def inN (n : Nat) (p : Int × Int) : Prop := (0 ≤ p.1 ∧ p.1 < n) ∧ (0 ≤ p.2 ∧ p.2 < n)
theorem inR_iff {r : List Nat} {a : Int} : inR r a = true ↔ 0 ≤ a ∧ a < r.length := by unfold inR; simp
theorem rjo_len {r : List Nat} {a b : Int} : (rjo r a b).length = r.length := by unfold rjo; split <;> simp
theorem rjo_get {r : List Nat} {a b : Int} {k : Nat} (hk : k < r.length) (hab : inN r.length (a, b)) : (rjo r a b).getD k 0 = if r.getD k 0 = max (r.getD a.toNat 0) (r.getD b.toNat 0) then min (r.getD a.toNat 0) (r.getD b.toNat 0) else r.getD k 0 := by
  unfold rjo
  rw [if_pos ⟨inR_iff.2 hab.1, inR_iff.2 hab.2⟩]
  simp [hk]
theorem rjo_no {r : List Nat} {a b : Int} (hab : ¬ inN r.length (a, b)) : rjo r a b = r := by
  unfold rjo
  rw [if_neg]
  rintro ⟨h1, h2⟩
  exact hab ⟨inR_iff.1 h1, inR_iff.1 h2⟩
theorem plR_len : ∀ {ps : List (Int × Int)} {r : List Nat}, (plR r ps).length = r.length
  | [], r => rfl
  | p :: ps, r => by rw [plR, plR_len, rjo_len]
theorem rjo_mono {r : List Nat} {a b : Int} {i j : Nat} (hi : i < r.length) (hj : j < r.length) (h : r.getD i 0 = r.getD j 0) : (rjo r a b).getD i 0 = (rjo r a b).getD j 0 := by
  by_cases hab : inN r.length (a, b)
  · rw [rjo_get hi hab, rjo_get hj hab, h]
  · rw [rjo_no hab, h]
theorem plR_mono : ∀ {ps : List (Int × Int)} {r : List Nat} {i j : Nat}, i < r.length → j < r.length → r.getD i 0 = r.getD j 0 → (plR r ps).getD i 0 = (plR r ps).getD j 0
  | [], r, i, j, _, _, h => h
  | p :: ps, r, i, j, hi, hj, h => by
    rw [plR]
    exact plR_mono (by rw [rjo_len]; exact hi) (by rw [rjo_len]; exact hj) (rjo_mono hi hj h)
theorem plR_resp : ∀ {ps : List (Int × Int)} {r : List Nat} {p : Int × Int}, p ∈ ps → inN r.length p → (plR r ps).getD p.1.toNat 0 = (plR r ps).getD p.2.toNat 0
  | q :: ps, r, p, hp, hin => by
    rw [plR]
    have i1 : p.1.toNat < r.length := by have := hin.1; omega
    have i2 : p.2.toNat < r.length := by have := hin.2; omega
    rcases List.mem_cons.1 hp with rfl | hp
    · refine plR_mono (by rw [rjo_len]; exact i1) (by rw [rjo_len]; exact i2) ?_
      rw [rjo_get i1 hin, rjo_get i2 hin]
      split <;> split <;> omega
    · exact plR_resp hp (by rw [rjo_len]; exact hin)
theorem plR_least {α : Type} {φ : Nat → α} : ∀ {ps : List (Int × Int)} {r : List Nat}, (∀ p, p ∈ ps → inN r.length p → φ p.1.toNat = φ p.2.toNat) → (∀ i j, i < r.length → j < r.length → r.getD i 0 = r.getD j 0 → φ i = φ j) →
    ∀ i j, i < r.length → j < r.length → (plR r ps).getD i 0 = (plR r ps).getD j 0 → φ i = φ j
  | [], r, _, h, i, j, hi, hj, e => h i j hi hj e
  | p :: ps, r, hp, h, i, j, hi, hj, e => by
    rw [plR] at e
    refine plR_least (r := rjo r p.1 p.2) (ps := ps) (fun q hq hin => hp q (List.mem_cons_of_mem _ hq) (by rwa [rjo_len] at hin)) ?_ i j (by rw [rjo_len]; exact hi) (by rw [rjo_len]; exact hj) e
    intro i j hi hj e
    rw [rjo_len] at hi hj
    by_cases hab : inN r.length (p.1, p.2)
    · have hφ := hp p (List.mem_cons_self ..) hab
      have i1 : p.1.toNat < r.length := by have := hab.1; omega
      have i2 : p.2.toNat < r.length := by have := hab.2; omega
      have key : ∀ k, k < r.length → (r.getD k 0 = r.getD p.1.toNat 0 ∨ r.getD k 0 = r.getD p.2.toNat 0) → φ k = φ p.1.toNat := by
        intro k hk hor
        rcases hor with h1 | h1
        · exact h k _ hk i1 h1
        · rw [hφ]; exact h k _ hk i2 h1
      rw [rjo_get hi hab, rjo_get hj hab] at e
      by_cases ei : r.getD i 0 = r.getD p.1.toNat 0 ∨ r.getD i 0 = r.getD p.2.toNat 0
      · have ej : r.getD j 0 = r.getD p.1.toNat 0 ∨ r.getD j 0 = r.getD p.2.toNat 0 := by
          split at e <;> split at e <;> omega
        rw [key i hi ei, key j hj ej]
      · have ej : r.getD i 0 = r.getD j 0 := by
          split at e <;> split at e <;> omega
        exact h i j hi hj ej
    · rw [rjo_no hab] at e
      exact h i j hi hj e
theorem plR_06 {n : Nat} (ps : List (Int × Int)) : ∀ k, k < n → (plR (List.range n) ps).getD k 0 ≤ k ∧ (plR (List.range n) ps).getD ((plR (List.range n) ps).getD k 0) 0 = (plR (List.range n) ps).getD k 0 := by
  have key : ∀ (ps : List (Int × Int)) (up r : List Nat), UfOk up → Same06 up r → ∃ vp, UfOk vp ∧ Same06 vp (plR r ps) ∧ vp.length = up.length := by
    intro ps
    induction ps with
    | nil => intro up r h1 h2; exact ⟨up, h1, h2, rfl⟩
    | cons p ps ih =>
      intro up r h1 h2
      have j := jo_ok h1 p.1 p.2
      obtain ⟨vp, k1, k2, k3⟩ := ih (joU up p.1 p.2) (rjo r p.1 p.2) j.2.1 (same_join h1 h2 _ _)
      exact ⟨vp, k1, k2, by rw [k3, j.1]⟩
  obtain ⟨vp, k1, k2, k3⟩ := key ps (List.range n) (List.range n) (range_ok n) (same_new n)
  intro k hk
  exact rho06 k1 k2 k (by rw [k3]; simpa using hk)
theorem plR_order {n : Nat} {ps qs : List (Int × Int)} (h : ∀ p, p ∈ ps ↔ (p.2, p.1) ∈ qs) : ∀ k, k < n → (plR (List.range n) ps).getD k 0 = (plR (List.range n) qs).getD k 0 := by
  have hl : (List.range n).length = n := List.length_range
  have one : ∀ {ps qs : List (Int × Int)}, (∀ p, p ∈ ps ↔ (p.2, p.1) ∈ qs) → ∀ k, k < n → (plR (List.range n) qs).getD k 0 ≤ (plR (List.range n) ps).getD k 0 := by
    intro ps qs h k hk
    have h1 := plR_06 (n := n) ps k hk
    have hm : (plR (List.range n) ps).getD k 0 < n := by omega
    have e := plR_least (φ := fun k => (plR (List.range n) qs).getD k 0) (ps := ps) (r := List.range n) (fun p hp hin => by
        have := plR_resp ((h p).1 hp) (show inN (List.range n).length (p.2, p.1) from ⟨hin.2, hin.1⟩)
        exact this.symm)
      (fun i j hi hj e => by
        rw [hl] at hi hj
        have : i = j := by simpa [hi, hj] using e
        rw [this]) k _ (by rw [hl]; exact hk) (by rw [hl]; exact hm) h1.2.symm
    rw [e]
    exact (plR_06 (n := n) qs _ hm).1
  intro k hk
  have a := one h k hk
  have b := one (ps := qs) (qs := ps) (fun p => (h (p.2, p.1)).symm) k hk
  omega
theorem UfS.keep {H H' : List HO} {C R n : Nat} {ρ : Nat → Nat} (h : UfS H C R n ρ) (hC : H'[C]? = H[C]?) (hR : n ≠ 0 → H'[R]? = H[R]?) : UfS H' C R n ρ := by
  obtain ⟨up, hat, ok, hn, hr⟩ := h
  refine ⟨up, ?_, ok, hn, hr⟩
  rcases hat with ⟨h1, own, ho, h2⟩ | ⟨h1, h2, h3⟩
  · exact .inl ⟨h1, own, ho, by rw [hC]; exact h2⟩
  · have : n ≠ 0 := by rintro rfl; exact h1 (List.eq_nil_of_length_eq_zero hn)
    exact .inr ⟨h1, by rw [hC]; exact h2, by rw [hR this]; exact h3⟩
theorem UfS.rho {H : List HO} {C R n : Nat} {ρ ρ' : Nat → Nat} (h : UfS H C R n ρ) (e : ∀ k, k < n → ρ k = ρ' k) : UfS H C R n ρ' := by
  obtain ⟨up, hat, ok, hn, hr⟩ := h
  exact ⟨up, hat, ok, hn, fun k hk => (hr k hk).trans (e k hk)⟩
def smR (n : Nat) (ρ : Nat → Nat) (a b : Int) : Bool := inR' n a && decide (fvR n ρ a = fvR n ρ b)
theorem S_sameE {H : List HO} {C R n : Nat} {ρ : Nat → Nat} (a b : Int) (h : UfS H C R n ρ) (hCR : C ≠ R) (hl : n ≤ 1000) : TS Try.prog 20 [.ptr C 0, .int .i64 a, .int .i64 b] H (fun r H' => r = .bool (smR n ρ a b) ∧ UfStep H H' C R n ρ) := by
  have hS := h
  obtain ⟨up, hat, ok, hn, hr⟩ := h
  refine TS.pt (S_same H C R up a b hat ok hCR (by omega)) ⟨?_, ?_⟩
  · unfold smB smR
    rw [fv_R hn hr, fv_R hn hr]
    unfold inR inR'
    rw [hn]
  · have k1 := fu_ok ok a
    have k2 := fu_at hat ok hCR a
    unfold smH
    split
    · exact (fH_step hat ok hCR hn hr a).trans (fH_step k2 k1.2.1 hCR (by rw [k1.1, hn]) (fun k hk => by rw [k1.2.2, hr k hk]) b)
    · exact UfStep.refl hS
/-- two of them -/
def Two (C R : Nat) (n : Nat) (ρ : Nat → Nat) (H : List HO) : Prop := UfS H 0 1 n ρ ∧ UfS H C R n ρ
theorem Two.one {C R n : Nat} {ρ : Nat → Nat} {H H' : List HO} (h : Two C R n ρ H) (hC : n ≠ 0 → 1 < C) (hR : R = C + 1) (hs : UfStep H H' 0 1 n ρ) : Two C R n ρ H' :=
  ⟨hs.st, h.2.keep (hs.oth _ (by by_cases e : n = 0; exact .inr e; have := hC e; exact .inl (by omega))) fun e => hs.oth _ (.inl (by have := hC e; omega))⟩
theorem Two.two {C R n : Nat} {ρ : Nat → Nat} {H H' : List HO} (h : Two C R n ρ H) (hC : 0 < C) (hR : R = C + 1) (hs : UfStep H H' C R n ρ) : Two C R n ρ H' :=
  ⟨h.1.keep (hs.oth _ (.inl (by omega))) fun _ => hs.oth _ (.inl (by omega)), hs.st⟩
theorem newH_len {H : List HO} {n : Nat} : H.length < (newH H n).length := by unfold newH; split <;> simp
theorem joH_len {H : List HO} {R : Nat} {up : List Nat} {a b : Int} : (joH H R up a b).length = H.length := by
  have f : ∀ (H : List HO) (up : List Nat) (i : Int), (fH H R up i).length = H.length := fun H up i => by unfold fH; split <;> simp
  unfold joH joH0
  split <;> simp [f]
theorem plH_len {R : Nat} : ∀ (ps : List (Int × Int)) (H : List HO) (up : List Nat), (plH H R up ps).length = H.length
  | [], H, up => rfl
  | p :: ps, H, up => by rw [plH, plH_len ps, joH_len]
set_option maxHeartbeats 2000000 in
set_option maxRecDepth 4000 in
theorem T_UfOrders (m : Nat) (ps : List (Int × Int)) (a b d : Int) (hm : m < 256) (hl : ps.length < 4611686018427387904) : T Try.prog 4 [.int .u8 m, .sl .no (avs pairA ps), .int .i64 a, .int .i64 b, .int .i64 d] (.bool true) := by
  obtain ⟨bk, hbk⟩ : ∃ bk, bk = ps.map fun p : Int × Int => (p.2, p.1) := ⟨_, rfl⟩
  have hbl0 : bk.length = ps.length := by rw [hbk]; simp
  have hbg : ∀ j (h : j < ps.length) (h' : j < bk.length), bk[j] = (ps[j].2, ps[j].1) := fun j h h' => by subst hbk; simp
  have p1 := S_play [] m ps hm hl
  have q1 := pl_ok (C := 0) (R := 1) (by omega) ps (newH [] (m % 40)) (List.range (m % 40)) (List.range (m % 40)) (new_at [] _) (range_ok _) (same_new _)
  have hS1 : UfS (plH (newH [] (m % 40)) 1 (List.range (m % 40)) ps) 0 1 (m % 40) (fun k => (plR (List.range (m % 40)) ps).getD k 0) := UfS.of06 q1.2.1 q1.2.2.1 q1.2.2.2 (by rw [q1.1]; simp)
  refine T.intro (TS.body mix Try.func4 (by kernel_rfl) rfl (by kernel_rfl) (by simp) ?_)
  simp
  refine condK_of (fun q => ?_) (fun q => ?_)
  · simp
    (first | refine TS.call' (T_live06) (by simp) ?_ | refine TDK.call' (T_live06) (by simp) ?_ | refine GTK.call (fun _ => ⟨T_live06, by simp⟩) ?_ | refine TS.call (T_live06) (by simp) ?_ | refine TDK.call (T_live06) (by simp) ?_); simp
  simp at q
  simp
  refine TS.pt p1 ?_
  simp
  generalize plH (newH [] (m % 40)) 1 (List.range (m % 40)) ps = H1 at *
  have w0 : ∀ k : Nat, k ≤ ps.length → IntKind.i64.wrap ((k : Int) - 1) = (k : Int) - 1 := fun k hk => wrap_i64 (by omega) (by omega)
  have hL : 0 < H1.length := by
    obtain ⟨up, hat, _⟩ := hS1
    rcases hat with ⟨_, _, _, h⟩ | ⟨_, h, _⟩ <;> exact (List.getElem?_eq_some_iff.1 h).1
  refine vc_loop (fun k : Nat => k) (fun k e H2 => ∃ J : List HO, e 0 = .int .u8 m ∧ e 1 = .sl .no (avs pairA ps) ∧ e 2 = .int .i64 a ∧ e 3 = .int .i64 b ∧ e 4 = .int .i64 d ∧ e 11 = .ptr 0 0 ∧ e 14 = .int .i64 ((k : Int) - 1) ∧ k ≤ ps.length ∧ GrowB 2 H1 J (e 13) (avs pairA (bk.drop k).reverse) ∧ H2 = H1 ++ J) ps.length ?_ ?_
  · exact ⟨[], by simp, by simp, by simp, by simp, by simp, by simp, by simp [w0], by omega, by simp [GrowB, ← hbl0], by simp⟩
  rintro k e H2 ⟨J, h0, h1, h2, h3, h4, h11, h14, hk, hg, rfl⟩
  by_cases h : 0 < k
  · obtain ⟨j, rfl⟩ : ∃ j, k = j + 1 := ⟨k - 1, by omega⟩
    have hj : j < ps.length := by omega
    have e1 : ((j + 1 : Nat) : Int) - 1 = (j : Nat) := by omega
    have ew := w0 j (by omega)
    have hd : bk.drop j = bk[j]'(by omega) :: bk.drop (j + 1) := List.drop_eq_getElem_cons (by omega)
    have hrev : (bk.drop j).reverse = (bk.drop (j + 1)).reverse ++ [(ps[j].2, ps[j].1)] := by rw [hd, hbg j hj]; simp
    have hbl : (bk.drop (j + 1)).reverse.length ≤ 60 := by simp; omega
    rw [e1] at h14
    generalize (bk.drop (j + 1)).reverse = B at *
    rcases hg with ⟨ge, hg⟩ | ⟨t, hg, ht⟩
    · rw [avs_eq_nil] at ge
      simp [h0, h1, h2, h3, h4, h11, h14, hj, hg, ew]
      refine ⟨j, by omega, rfl, by omega, ?_⟩
      rw [hrev]
      exact GrowB.first (f := pairA) ge (by simp)
    · have ht' : J[t]? = some (.spare B.length 2) := by simpa using ht
      simp [h0, h1, h2, h3, h4, h11, h14, hj, hg, ew, app_atn, app_setn, ht']
      refine ⟨by omega, j, by omega, rfl, by omega, ?_⟩
      rw [hrev]
      rw [show avs pairA B ++ [AV.agg [.int .i64 ps[j].2, .int .i64 ps[j].1]] = avs pairA (B ++ [(ps[j].2, ps[j].1)]) from avs_concat (f := pairA) (a := (ps[j].2, ps[j].1))]
      exact GrowB.more (f := pairA) ht rfl
  · have : k = 0 := by omega
    subst this
    rw [List.drop_zero] at hg
    obtain ⟨own, hg⟩ := hg.own
    have p2 := S_play (H1 ++ J) m bk.reverse hm (by simp; omega)
    have q2 := pl_ok (C := (H1 ++ J).length) (R := (H1 ++ J).length + 1) (by omega) bk.reverse (newH (H1 ++ J) (m % 40)) (List.range (m % 40)) (List.range (m % 40)) (new_at _ _) (range_ok _) (same_new _)
    have hord := plR_order (n := m % 40) (ps := ps) (qs := bk.reverse) (fun p => by
      rw [List.mem_reverse, hbk, List.mem_map]
      exact ⟨fun h => ⟨p, h, rfl⟩, fun ⟨q, hq, e⟩ => by
        have e1 : q.2 = p.2 := congrArg Prod.fst e
        have e2 : q.1 = p.1 := congrArg Prod.snd e
        have : q = p := Prod.ext e2 e1
        rw [← this]; exact hq⟩)
    have hS2 : UfS (plH (newH (H1 ++ J) (m % 40)) ((H1 ++ J).length + 1) (List.range (m % 40)) bk.reverse) (H1 ++ J).length ((H1 ++ J).length + 1) (m % 40) (fun k => (plR (List.range (m % 40)) ps).getD k 0) :=
      (UfS.of06 q2.2.1 q2.2.2.1 q2.2.2.2 (by rw [q2.1]; simp)).rho fun k hk => (hord k hk).symm
    have hC : ∀ k, k < (H1 ++ J).length → (plH (newH (H1 ++ J) (m % 40)) ((H1 ++ J).length + 1) (List.range (m % 40)) bk.reverse)[k]? = (H1 ++ J)[k]? := fun k hk => by
      rw [plH_ne (by omega), newH_old hk]
    have hR1 : m % 40 ≠ 0 → 1 < H1.length := by
      intro hn
      obtain ⟨up, hat, _, hlen, _⟩ := hS1
      rcases hat with ⟨h, _⟩ | ⟨_, _, h⟩
      · subst h; simp at hlen; omega
      · exact (List.getElem?_eq_some_iff.1 h).1
    have hT : Two (H1 ++ J).length ((H1 ++ J).length + 1) (m % 40) (fun k => (plR (List.range (m % 40)) ps).getD k 0) (plH (newH (H1 ++ J) (m % 40)) ((H1 ++ J).length + 1) (List.range (m % 40)) bk.reverse) := by
      refine ⟨hS1.keep ?_ ?_, hS2⟩
      · rw [hC 0 (by simp; omega), List.getElem?_append_left hL]
      · intro hn
        rw [hC 1 (by have := hR1 hn; simp; omega), List.getElem?_append_left (hR1 hn)]
    simp [h0, h1, h2, h3, h4, h11, h14, hg]
    refine TS.weak (TS.pt p2 ?_) (by simp)
    generalize plH (newH (H1 ++ J) (m % 40)) ((H1 ++ J).length + 1) (List.range (m % 40)) bk.reverse = H3 at *
    have hC0 : 0 < (H1 ++ J).length := by simp; omega
    have hC1 : m % 40 ≠ 0 → 1 < (H1 ++ J).length := fun e => by have := hR1 e; simp; omega
    have hn : m % 40 < 40 := by omega
    rw [List.length_append] at hT hC0 hC1
    clear hS1 hS2 hC hord q2 p2 q1 p1 hR1 hg
    generalize (fun k => (plR (List.range (m % 40)) ps).getD k 0) = ρ at *
    generalize hCe : H1.length + J.length = C at *
    generalize hN : m % 40 = n at *
    have s1 : ∀ x y H, Two C (C + 1) n ρ H → TS Try.prog 20 [.ptr 0 0, .int .i64 x, .int .i64 y] H (fun r H' => r = .bool (smR n ρ x y) ∧ Two C (C + 1) n ρ H') := fun x y H h =>
      (S_sameE x y h.1 (by omega) (by omega)).mono fun r H' ⟨e, hs⟩ => ⟨e, h.one hC1 rfl hs⟩
    have s2 : ∀ x y H, Two C (C + 1) n ρ H → TS Try.prog 20 [.ptr C 0, .int .i64 x, .int .i64 y] H (fun r H' => r = .bool (smR n ρ x y) ∧ Two C (C + 1) n ρ H') := fun x y H h =>
      (S_sameE x y h.2 (by omega) (by omega)).mono fun r H' ⟨e, hs⟩ => ⟨e, h.two hC0 rfl hs⟩
    have g1 : ∀ x H, Two C (C + 1) n ρ H → TS Try.prog 21 [.ptr 0 0, .int .i64 x] H (fun r H' => r = .int .i64 (fvR n ρ x) ∧ Two C (C + 1) n ρ H') := fun x H h =>
      (S_findE x h.1 (by omega) (by omega)).mono fun r H' ⟨e, hs⟩ => ⟨e, h.one hC1 rfl hs⟩
    have g2 : ∀ x H, Two C (C + 1) n ρ H → TS Try.prog 21 [.ptr C 0, .int .i64 x] H (fun r H' => r = .int .i64 (fvR n ρ x) ∧ Two C (C + 1) n ρ H') := fun x H h =>
      (S_findE x h.2 (by omega) (by omega)).mono fun r H' ⟨e, hs⟩ => ⟨e, h.two hC0 rfl hs⟩
    have tr : smR n ρ a b = true → smR n ρ b d = true → smR n ρ a d = true := by
      unfold smR; simp; intro x1 x2 x3 x4; exact ⟨x1, x2.trans x4⟩
    have sy : smR n ρ a b = smR n ρ b a := by
      unfold smR inR' fvR
      rw [Bool.eq_iff_iff]
      simp
      constructor <;> (rintro ⟨⟨x1, x2⟩, x3⟩; rw [if_pos (show _ ∧ _ from ⟨x1, x2⟩)] at x3; split at x3 <;> first | (rename_i x4; exact ⟨x4, by rw [if_pos x4, if_pos (show _ ∧ _ from ⟨x1, x2⟩), x3]⟩) | omega)
    simp [h0, h1, h2, h3, h4, h11, h14]
    refine TS.ptE (s1 a b _ hT) ?_
    clear hT
    rintro r H4 ⟨rfl, hT⟩
    simp [h0, h1, h2, h3, h4, h11, h14]
    refine GTK.inv (Two C (C + 1) n ρ) (fun _ => s1 b d _ hT) hT ?_
    clear hT
    intro H5 hT
    simp [h0, h1, h2, h3, h4, h11, h14, hCe]
    refine ⟨by simp_all, GTK.inv (Two C (C + 1) n ρ) (fun _ => s1 a d _ hT) hT ?_⟩
    clear hT
    intro H6 hT
    have hon : (!smR n ρ a b || !smR n ρ b d || smR n ρ a d) = true := by
      cases e1 : smR n ρ a b <;> cases e2 : smR n ρ b d <;> simp
      exact tr e1 e2
    simp [h0, h1, h2, h3, h4, h11, h14, hCe]
    refine TS.ptE (s1 a b _ hT) ?_
    clear hT
    rintro r H7 ⟨rfl, hT⟩
    simp [h0, h1, h2, h3, h4, h11, h14, hCe]
    refine TS.ptE (s2 a b _ hT) ?_
    clear hT
    rintro r H8 ⟨rfl, hT⟩
    simp [h0, h1, h2, h3, h4, h11, h14, hCe]
    refine GTK.yes (TS.ptE (g1 a _ hT) ?_)
    clear hT
    rintro r H9 ⟨rfl, hT⟩
    simp [h0, h1, h2, h3, h4, h11, h14, hCe]
    refine GTK.yes (TS.ptE (g2 a _ hT) ?_)
    clear hT
    rintro r H10 ⟨rfl, hT⟩
    simp [h0, h1, h2, h3, h4, h11, h14, hCe]
    refine GTK.yes (TS.ptE (s1 a b _ hT) ?_)
    clear hT
    rintro r H11 ⟨rfl, hT⟩
    simp [h0, h1, h2, h3, h4, h11, h14, hCe]
    refine GTK.yes (TS.ptE (s1 b a _ hT) ?_)
    clear hT
    rintro r H12 ⟨rfl, hT⟩
    rw [sy] at hon
    simp [h0, h1, h2, h3, h4, h11, h14, hCe, sy]
    rw [hon]
    refine GTK.yes (TS.call' T_live06 (by simp) ?_)
    simp
theorem S_UfOrders {xs : List AV} (h : ShA Try.prog [5, 22, 3, 3, 3] xs) : T Try.prog 4 xs (.bool true) := by
  obtain ⟨y, r, rfl, h0, h⟩ := h.cons_of ag_5
  obtain ⟨y, r, rfl, h1, h⟩ := h.cons_of ag_22
  obtain ⟨y, r, rfl, h2, h⟩ := h.cons_of ag_3
  obtain ⟨y, r, rfl, h3, h⟩ := h.cons_of ag_3
  obtain ⟨y, r, rfl, h4, h⟩ := h.cons_of ag_3
  obtain rfl := h.nil_of
  obtain ⟨m, rfl, hm⟩ := h0.int_of un_5
  obtain ⟨ps, rfl, hps⟩ := pairs_in h1
  obtain ⟨a, rfl, _⟩ := h2.int_of un_3
  obtain ⟨b, rfl, _⟩ := h3.int_of un_3
  obtain ⟨d, rfl, _⟩ := h4.int_of un_3
  have hm := u8_wf hm
  obtain ⟨m, rfl⟩ : ∃ k : Nat, m = k := ⟨m.toNat, by omega⟩
  exact T_UfOrders m ps a b d (by omega) hps
end Go.Proofs.Ytgmhmdmfnmlhmab.PL
