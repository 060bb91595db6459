/- What hangs together. -/
import Derived.Test.YtcjfjoilgnlemaaFGraph3
import Derived.Test.YtcjfjoilgnlemaaFUf5
namespace Go.Proofs.Ytcjfjoilgnlemaa.PL
open Go.Proofs
set_option linter.unusedVariables false
set_option linter.unusedSimpArgs false
abbrev lists' (h : List (List Int)) : List AV := avs (slA (AV.int .i64)) h
def pJ (h : List (List Int)) (i k : Nat) : List (Int × Int) := if (sharedI (h.getD i []) (h.getD k [])).length = 0 then [] else [((i : Int), (k : Int))]
/-- those of the i-th with the first k -/
def pI (h : List (List Int)) (i : Nat) : Nat → List (Int × Int)
  | 0 => []
  | k + 1 => pI h i k ++ pJ h i k
def pA (h : List (List Int)) : Nat → List (Int × Int)
  | 0 => []
  | i + 1 => pA h i ++ pI h i i
theorem plR_append (r : List Nat) : ∀ a b : List (Int × Int), plR r (a ++ b) = plR (plR r a) b
  | [], b => rfl
  | p :: a, b => by simp only [List.cons_append, plR, plR_append (rjo r p.1 p.2) a b]
/-- the classes stand, and the reference's list tells them -/
def UfRef (H : List HO) (C R n : Nat) (r : List Nat) : Prop := ∃ up, UfAt H C R up ∧ UfOk up ∧ up.length = n ∧ Same06 up r
theorem UfRef.new (H : List HO) (n : Nat) : UfRef (newH H n) H.length (H.length + 1) n (List.range n) := ⟨List.range n, new_at H n, range_ok n, by simp, same_new n⟩
theorem UfRef.len {H : List HO} {C R n : Nat} {r : List Nat} (h : UfRef H C R n r) : r.length = n := by
  obtain ⟨up, h1, h2, h3, h4⟩ := h
  rw [h4.1, h3]
theorem UfRef.ufs {H : List HO} {C R n : Nat} {r : List Nat} (h : UfRef H C R n r) : UfS H C R n (fun k => r.getD k 0) ∧ ∀ k, k < n → r.getD k 0 ≤ k ∧ r.getD (r.getD k 0) 0 = r.getD k 0 := by
  obtain ⟨up, h1, h2, h3, h4⟩ := h
  exact ⟨⟨up, h1, h2, h3, fun k hk => (h4.2 k (by omega)).symm⟩, fun k hk => rho06 h2 h4 k (by omega)⟩
theorem S_joinR {H : List HO} {C R n : Nat} {r : List Nat} (a b : Int) (h : UfRef H C R n r) (hCR : C ≠ R) (hl : n ≤ 1000) : TS Try.prog 84 [.ptr C 0, .int .i64 a, .int .i64 b] H (fun x H' => (∃ b, x = .bool b) ∧ UfRef H' C R n (rjo r a b)) := by
  obtain ⟨up, h1, h2, h3, h4⟩ := h
  refine (S_join H C R up a b h1 h2 hCR (by omega)).mono ?_
  rintro _ _ ⟨rfl, rfl⟩
  have j := jo_ok h2 a b
  exact ⟨⟨_, rfl⟩, _, jo_at h1 h2 hCR a b, j.2.1, by rw [j.1, h3], same_join h2 h4 a b⟩
def partsF (h : List (List Int)) : List (List Nat) := csA (fun k => (plR (List.range h.length) (pA h h.length)).getD k 0) h.length
end Go.Proofs.Ytcjfjoilgnlemaa.PL
