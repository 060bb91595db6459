/- In whatever order: classes that join. -/
import Derived.Test.YtcjfjoilgnlemaaFUf4
namespace Go.Proofs.Ytcjfjoilgnlemaa.PL
open Go.Proofs
set_option linter.unusedVariables false
set_option linter.unusedSimpArgs false
/-! the order plays no part -/
def inN (n : Nat) (p : Int × Int) : Prop := (0 ≤ p.1 ∧ p.1 < n) ∧ (0 ≤ p.2 ∧ p.2 < n)
theorem inR_iff {r : List Nat} {a : Int} : inR r a = true ↔ 0 ≤ a ∧ a < r.length := by unfold inR; simp
theorem rjo_len {r : List Nat} {a b : Int} : (rjo r a b).length = r.length := by unfold rjo; split <;> simp
theorem rjo_get {r : List Nat} {a b : Int} {k : Nat} (hk : k < r.length) (hab : inN r.length (a, b)) : (rjo r a b).getD k 0 = if r.getD k 0 = max (r.getD a.toNat 0) (r.getD b.toNat 0) then min (r.getD a.toNat 0) (r.getD b.toNat 0) else r.getD k 0 := by
  unfold rjo
  rw [if_pos ⟨inR_iff.2 hab.1, inR_iff.2 hab.2⟩]
  simp [hk]
theorem rjo_no {r : List Nat} {a b : Int} (hab : ¬ inN r.length (a, b)) : rjo r a b = r := by
  unfold rjo
  rw [if_neg]
  rintro ⟨h1, h2⟩
  exact hab ⟨inR_iff.1 h1, inR_iff.1 h2⟩
theorem plR_len : ∀ {ps : List (Int × Int)} {r : List Nat}, (plR r ps).length = r.length
  | [], r => rfl
  | p :: ps, r => by rw [plR, plR_len, rjo_len]
theorem rjo_mono {r : List Nat} {a b : Int} {i j : Nat} (hi : i < r.length) (hj : j < r.length) (h : r.getD i 0 = r.getD j 0) : (rjo r a b).getD i 0 = (rjo r a b).getD j 0 := by
  by_cases hab : inN r.length (a, b)
  · rw [rjo_get hi hab, rjo_get hj hab, h]
  · rw [rjo_no hab, h]
theorem plR_mono : ∀ {ps : List (Int × Int)} {r : List Nat} {i j : Nat}, i < r.length → j < r.length → r.getD i 0 = r.getD j 0 → (plR r ps).getD i 0 = (plR r ps).getD j 0
  | [], r, i, j, _, _, h => h
  | p :: ps, r, i, j, hi, hj, h => by
    rw [plR]
    exact plR_mono (by rw [rjo_len]; exact hi) (by rw [rjo_len]; exact hj) (rjo_mono hi hj h)
theorem plR_resp : ∀ {ps : List (Int × Int)} {r : List Nat} {p : Int × Int}, p ∈ ps → inN r.length p → (plR r ps).getD p.1.toNat 0 = (plR r ps).getD p.2.toNat 0
  | q :: ps, r, p, hp, hin => by
    rw [plR]
    have i1 : p.1.toNat < r.length := by have := hin.1; omega
    have i2 : p.2.toNat < r.length := by have := hin.2; omega
    rcases List.mem_cons.1 hp with rfl | hp
    · refine plR_mono (by rw [rjo_len]; exact i1) (by rw [rjo_len]; exact i2) ?_
      rw [rjo_get i1 hin, rjo_get i2 hin]
      split <;> split <;> omega
    · exact plR_resp hp (by rw [rjo_len]; exact hin)
theorem plR_least {α : Type} {φ : Nat → α} : ∀ {ps : List (Int × Int)} {r : List Nat}, (∀ p, p ∈ ps → inN r.length p → φ p.1.toNat = φ p.2.toNat) → (∀ i j, i < r.length → j < r.length → r.getD i 0 = r.getD j 0 → φ i = φ j) →
    ∀ i j, i < r.length → j < r.length → (plR r ps).getD i 0 = (plR r ps).getD j 0 → φ i = φ j
  | [], r, _, h, i, j, hi, hj, e => h i j hi hj e
  | p :: ps, r, hp, h, i, j, hi, hj, e => by
    rw [plR] at e
    refine plR_least (r := rjo r p.1 p.2) (ps := ps) (fun q hq hin => hp q (List.mem_cons_of_mem _ hq) (by rwa [rjo_len] at hin)) ?_ i j (by rw [rjo_len]; exact hi) (by rw [rjo_len]; exact hj) e
    intro i j hi hj e
    rw [rjo_len] at hi hj
    by_cases hab : inN r.length (p.1, p.2)
    · have hφ := hp p (List.mem_cons_self ..) hab
      have i1 : p.1.toNat < r.length := by have := hab.1; omega
      have i2 : p.2.toNat < r.length := by have := hab.2; omega
      have key : ∀ k, k < r.length → (r.getD k 0 = r.getD p.1.toNat 0 ∨ r.getD k 0 = r.getD p.2.toNat 0) → φ k = φ p.1.toNat := by
        intro k hk hor
        rcases hor with h1 | h1
        · exact h k _ hk i1 h1
        · rw [hφ]; exact h k _ hk i2 h1
      rw [rjo_get hi hab, rjo_get hj hab] at e
      by_cases ei : r.getD i 0 = r.getD p.1.toNat 0 ∨ r.getD i 0 = r.getD p.2.toNat 0
      · have ej : r.getD j 0 = r.getD p.1.toNat 0 ∨ r.getD j 0 = r.getD p.2.toNat 0 := by
          split at e <;> split at e <;> omega
        rw [key i hi ei, key j hj ej]
      · have ej : r.getD i 0 = r.getD j 0 := by
          split at e <;> split at e <;> omega
        exact h i j hi hj ej
    · rw [rjo_no hab] at e
      exact h i j hi hj e
theorem plR_06 {n : Nat} (ps : List (Int × Int)) : ∀ k, k < n → (plR (List.range n) ps).getD k 0 ≤ k ∧ (plR (List.range n) ps).getD ((plR (List.range n) ps).getD k 0) 0 = (plR (List.range n) ps).getD k 0 := by
  have key : ∀ (ps : List (Int × Int)) (up r : List Nat), UfOk up → Same06 up r → ∃ vp, UfOk vp ∧ Same06 vp (plR r ps) ∧ vp.length = up.length := by
    intro ps
    induction ps with
    | nil => intro up r h1 h2; exact ⟨up, h1, h2, rfl⟩
    | cons p ps ih =>
      intro up r h1 h2
      have j := jo_ok h1 p.1 p.2
      obtain ⟨vp, k1, k2, k3⟩ := ih (joU up p.1 p.2) (rjo r p.1 p.2) j.2.1 (same_join h1 h2 _ _)
      exact ⟨vp, k1, k2, by rw [k3, j.1]⟩
  obtain ⟨vp, k1, k2, k3⟩ := key ps (List.range n) (List.range n) (range_ok n) (same_new n)
  intro k hk
  exact rho06 k1 k2 k (by rw [k3]; simpa using hk)
theorem plR_order {n : Nat} {ps qs : List (Int × Int)} (h : ∀ p, p ∈ ps ↔ (p.2, p.1) ∈ qs) : ∀ k, k < n → (plR (List.range n) ps).getD k 0 = (plR (List.range n) qs).getD k 0 := by
  have hl : (List.range n).length = n := List.length_range
  have one : ∀ {ps qs : List (Int × Int)}, (∀ p, p ∈ ps ↔ (p.2, p.1) ∈ qs) → ∀ k, k < n → (plR (List.range n) qs).getD k 0 ≤ (plR (List.range n) ps).getD k 0 := by
    intro ps qs h k hk
    have h1 := plR_06 (n := n) ps k hk
    have hm : (plR (List.range n) ps).getD k 0 < n := by omega
    have e := plR_least (φ := fun k => (plR (List.range n) qs).getD k 0) (ps := ps) (r := List.range n) (fun p hp hin => by
        have := plR_resp ((h p).1 hp) (show inN (List.range n).length (p.2, p.1) from ⟨hin.2, hin.1⟩)
        exact this.symm)
      (fun i j hi hj e => by
        rw [hl] at hi hj
        have : i = j := by simpa [hi, hj] using e
        rw [this]) k _ (by rw [hl]; exact hk) (by rw [hl]; exact hm) h1.2.symm
    rw [e]
    exact (plR_06 (n := n) qs _ hm).1
  intro k hk
  have a := one h k hk
  have b := one (ps := qs) (qs := ps) (fun p => (h (p.2, p.1)).symm) k hk
  omega
theorem UfS.keep {H H' : List HO} {C R n : Nat} {ρ : Nat → Nat} (h : UfS H C R n ρ) (hC : H'[C]? = H[C]?) (hR : n ≠ 0 → H'[R]? = H[R]?) : UfS H' C R n ρ := by
  obtain ⟨up, hat, ok, hn, hr⟩ := h
  refine ⟨up, ?_, ok, hn, hr⟩
  rcases hat with ⟨h1, own, ho, h2⟩ | ⟨h1, h2, h3⟩
  · exact .inl ⟨h1, own, ho, by rw [hC]; exact h2⟩
  · have : n ≠ 0 := by rintro rfl; exact h1 (List.eq_nil_of_length_eq_zero hn)
    exact .inr ⟨h1, by rw [hC]; exact h2, by rw [hR this]; exact h3⟩
theorem UfS.rho {H : List HO} {C R n : Nat} {ρ ρ' : Nat → Nat} (h : UfS H C R n ρ) (e : ∀ k, k < n → ρ k = ρ' k) : UfS H C R n ρ' := by
  obtain ⟨up, hat, ok, hn, hr⟩ := h
  exact ⟨up, hat, ok, hn, fun k hk => (hr k hk).trans (e k hk)⟩
def smR (n : Nat) (ρ : Nat → Nat) (a b : Int) : Bool := inR' n a && decide (fvR n ρ a = fvR n ρ b)
theorem S_sameE {H : List HO} {C R n : Nat} {ρ : Nat → Nat} (a b : Int) (h : UfS H C R n ρ) (hCR : C ≠ R) (hl : n ≤ 1000) : TS Try.prog 46 [.ptr C 0, .int .i64 a, .int .i64 b] H (fun r H' => r = .bool (smR n ρ a b) ∧ UfStep H H' C R n ρ) := by
  have hS := h
  obtain ⟨up, hat, ok, hn, hr⟩ := h
  refine TS.pt (S_same H C R up a b hat ok hCR (by omega)) ⟨?_, ?_⟩
  · unfold smB smR
    rw [fv_R hn hr, fv_R hn hr]
    unfold inR inR'
    rw [hn]
  · have k1 := fu_ok ok a
    have k2 := fu_at hat ok hCR a
    unfold smH
    split
    · exact (fH_step hat ok hCR hn hr a).trans (fH_step k2 k1.2.1 hCR (by rw [k1.1, hn]) (fun k hk => by rw [k1.2.2, hr k hk]) b)
    · exact UfStep.refl hS
/-- two of them -/
def Two (C R : Nat) (n : Nat) (ρ : Nat → Nat) (H : List HO) : Prop := UfS H 0 1 n ρ ∧ UfS H C R n ρ
theorem Two.one {C R n : Nat} {ρ : Nat → Nat} {H H' : List HO} (h : Two C R n ρ H) (hC : n ≠ 0 → 1 < C) (hR : R = C + 1) (hs : UfStep H H' 0 1 n ρ) : Two C R n ρ H' :=
  ⟨hs.st, h.2.keep (hs.oth _ (by by_cases e : n = 0; exact .inr e; have := hC e; exact .inl (by omega))) fun e => hs.oth _ (.inl (by have := hC e; omega))⟩
theorem Two.two {C R n : Nat} {ρ : Nat → Nat} {H H' : List HO} (h : Two C R n ρ H) (hC : 0 < C) (hR : R = C + 1) (hs : UfStep H H' C R n ρ) : Two C R n ρ H' :=
  ⟨h.1.keep (hs.oth _ (.inl (by omega))) fun _ => hs.oth _ (.inl (by omega)), hs.st⟩
theorem newH_len {H : List HO} {n : Nat} : H.length < (newH H n).length := by unfold newH; split <;> simp
theorem joH_len {H : List HO} {R : Nat} {up : List Nat} {a b : Int} : (joH H R up a b).length = H.length := by
  have f : ∀ (H : List HO) (up : List Nat) (i : Int), (fH H R up i).length = H.length := fun H up i => by unfold fH; split <;> simp
  unfold joH joH0
  split <;> simp [f]
theorem plH_len {R : Nat} : ∀ (ps : List (Int × Int)) (H : List HO) (up : List Nat), (plH H R up ps).length = H.length
  | [], H, up => rfl
  | p :: ps, H, up => by rw [plH, plH_len ps, joH_len]

end Go.Proofs.Ytcjfjoilgnlemaa.PL
