/- What hangs together. -/
import Derived.Test.YtahpoodcmeoabaaFGraph3
import Derived.Test.YtahpoodcmeoabaaFUf5
namespace Go.Proofs.Ytahpoodcmeoabaa.PL
open Go.Proofs
set_option linter.unusedVariables false
set_option linter.unusedSimpArgs false
abbrev lists' (h : List (List Int)) : List AV := avs (slA (AV.int .i64)) h
def pJ (h : List (List Int)) (i k : Nat) : List (Int × Int) := if (sharedI (h.getD i []) (h.getD k [])).length = 0 then [] else [((i : Int), (k : Int))]
/-- those of the i-th with the first k -/
def pI (h : List (List Int)) (i : Nat) : Nat → List (Int × Int)
  | 0 => []
  | k + 1 => pI h i k ++ pJ h i k
def pA (h : List (List Int)) : Nat → List (Int × Int)
  | 0 => []
  | i + 1 => pA h i ++ pI h i i
theorem plR_append (r : List Nat) : ∀ a b : List (Int × Int), plR r (a ++ b) = plR (plR r a) b
  | [], b => rfl
  | p :: a, b => by simp only [List.cons_append, plR, plR_append (rjo r p.1 p.2) a b]
/-- the classes stand, and the reference's list tells them -/
def UfRef (H : List HO) (C R n : Nat) (r : List Nat) : Prop := ∃ up, UfAt H C R up ∧ UfOk up ∧ up.length = n ∧ Same06 up r
theorem UfRef.new (H : List HO) (n : Nat) : UfRef (newH H n) H.length (H.length + 1) n (List.range n) := ⟨List.range n, new_at H n, range_ok n, by simp, same_new n⟩
theorem UfRef.len {H : List HO} {C R n : Nat} {r : List Nat} (h : UfRef H C R n r) : r.length = n := by
  obtain ⟨up, h1, h2, h3, h4⟩ := h
  rw [h4.1, h3]
theorem UfRef.ufs {H : List HO} {C R n : Nat} {r : List Nat} (h : UfRef H C R n r) : UfS H C R n (fun k => r.getD k 0) ∧ ∀ k, k < n → r.getD k 0 ≤ k ∧ r.getD (r.getD k 0) 0 = r.getD k 0 := by
  obtain ⟨up, h1, h2, h3, h4⟩ := h
  exact ⟨⟨up, h1, h2, h3, fun k hk => (h4.2 k (by omega)).symm⟩, fun k hk => rho06 h2 h4 k (by omega)⟩
theorem S_joinR {H : List HO} {C R n : Nat} {r : List Nat} (a b : Int) (h : UfRef H C R n r) (hCR : C ≠ R) (hl : n ≤ 1000) : TS Try.prog 147 [.ptr C 0, .int .i64 a, .int .i64 b] H (fun x H' => (∃ b, x = .bool b) ∧ UfRef H' C R n (rjo r a b)) := by
  obtain ⟨up, h1, h2, h3, h4⟩ := h
  refine (S_join H C R up a b h1 h2 hCR (by omega)).mono ?_
  rintro _ _ ⟨rfl, rfl⟩
  have j := jo_ok h2 a b
  exact ⟨⟨_, rfl⟩, _, jo_at h1 h2 hCR a b, j.2.1, by rw [j.1, h3], same_join h2 h4 a b⟩
def partsF (h : List (List Int)) : List (List Nat) := csA (fun k => (plR (List.range h.length) (pA h h.length)).getD k 0) h.length
theorem T_gparts (h : List (List Int)) (hn : h.length ≤ 1000) (hs : ∀ l, l ∈ h → l.length ≤ 1000000) : T Try.prog 106 [.sl .no (lists' h)] (slA (slA natA) (partsF h)) := by
  have f1 := S_new [] h.length
  have hnn : newN (h.length : Int) = h.length := by unfold newN; omega
  rw [hnn] at f1
  have u0 := UfRef.new [] h.length
  refine T.introF (TS.body mix Try.func106 (by kernel_rfl) rfl (by kernel_rfl) (by simp) ?_)
  simp
  refine TS.pt f1 ?_
  simp
  refine vc_loop (fun i : Nat => h.length - i) (fun i e H => e 0 = .sl .no (lists' h) ∧ e 3 = .ptr 0 0 ∧ e 10 = .int .i64 h.length ∧ e 11 = .int .i64 i ∧ i ≤ h.length ∧ UfRef H 0 1 h.length (plR (List.range h.length) (pA h i))) 0 ?_ ?_
  · simp [pA, plR]
    exact u0
  rintro i e H ⟨e0, e3, e10, e11, hi, hu⟩
  by_cases hlt : i < h.length
  · have ew := wrap_next hlt (by omega)
    simp [e0, e3, e10, e11, hlt]
    refine vc_loop (fun k : Nat => i - k) (fun k e H => e 0 = .sl .no (lists' h) ∧ e 3 = .ptr 0 0 ∧ e 4 = .int .i64 i ∧ e 10 = .int .i64 h.length ∧ e 11 = .int .i64 i ∧ e 14 = .int .i64 i ∧ e 15 = .int .i64 k ∧ k ≤ i ∧ UfRef H 0 1 h.length (plR (List.range h.length) (pA h i ++ pI h i k))) 0 ?_ ?_
    · simp [e0, e3, e10, e11, pI]
      exact hu
    clear e0 e3 e10 e11 hu e H
    rintro k e H ⟨e0, e3, e4, e10, e11, e14, e15, hk, hu⟩
    by_cases hkt : k < i
    · have ekw := wrap_next hkt (by omega)
      have hkl : k < h.length := by omega
      have kx := T_shared h[i] h[k] (hs _ (List.getElem_mem hlt)) (by have := hs _ (List.getElem_mem hkl); omega)
      have hnext : pI h i (k + 1) = pI h i k ++ if (sharedI h[i] h[k]).length = 0 then [] else [((i : Int), (k : Int))] := by
        rw [pI, pJ]
        simp [hlt, hkl]
      simp [e0, e3, e4, e10, e11, e14, e15, hkt, hlt, hkl]
      refine TDK.callW kx (Dws.self (by simp)) ?_
      by_cases hz : (sharedI h[i] h[k]).length = 0
      · rw [if_pos hz, List.append_nil] at hnext
        simp [e0, e3, e4, e10, e11, e14, e15, hkt, hlt, hkl, hz]
        exact ⟨k + 1, by omega, ekw, by omega, by rw [hnext]; exact hu⟩
      · rw [if_neg hz] at hnext
        have hz' : 0 < (sharedI h[i] h[k]).length := by omega
        have hz2 : ¬ sharedI h[i] h[k] = [] := fun e => hz (by rw [e]; rfl)
        simp [e0, e3, e4, e10, e11, e14, e15, hkt, hlt, hkl, hz', hz2]
        refine (S_joinR (i : Int) (k : Int) hu (by omega) hn).mono ?_
        rintro _ H' ⟨⟨b, rfl⟩, hu'⟩
        simp [e0, e3, e4, e10, e11, e14, e15]
        refine ⟨k + 1, by omega, ekw, by omega, ?_⟩
        rw [hnext, ← List.append_assoc, plR_append]
        exact hu'
    · have : k = i := by omega
      subst this
      simp [e0, e3, e4, e10, e11, e14, e15]
      exact ⟨k + 1, by omega, ew, by omega, hu⟩
  · have : i = h.length := by omega
    subst this
    obtain ⟨u1, u2⟩ := hu.ufs
    simp [e0, e3, e10, e11]
    refine (S_all H 0 1 h.length _ u1 u2 (by omega) hn).mono ?_
    rintro _ H' ⟨rfl, _⟩
    simp
    have hp : csA (fun k => (plR (List.range h.length) (pA h h.length))[k]?.getD 0) h.length = partsF h := by simp [partsF]
    rw [hp]
    exact Frz.slN (f := slA natA)
end Go.Proofs.Ytahpoodcmeoabaa.PL
