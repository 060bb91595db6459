/- The laws of classes that join. -/
import Derived.Test.YtcjfjoilgnlemaaFUf3
import Derived.Test.YtcjfjoilgnlemaaFMuch
namespace Go.Proofs.Ytcjfjoilgnlemaa.PL
open Go.Proofs
set_option linter.unusedVariables false
set_option linter.unusedSimpArgs false
theorem clA_start {ρ : Nat → Nat} {i : Nat} (hle : ∀ k, k < i → ρ k ≤ k) : clA ρ i i = [] := by
  unfold clA
  rw [List.filter_eq_nil_iff]
  intro k hk
  have h1 := hle k (List.mem_range.1 hk)
  have h2 := List.mem_range.1 hk
  simp
  omega
theorem UfS.ofAt {H : List HO} {C R n : Nat} {up : List Nat} (h : UfAt H C R up) (ok : UfOk up) (hn : up.length = n) : UfS H C R n (rt up) := ⟨up, h, ok, hn, fun _ _ => rfl⟩
theorem UfS.of06 {H : List HO} {C R n : Nat} {up r : List Nat} (h : UfAt H C R up) (ok : UfOk up) (hs : Same06 up r) (hn : up.length = n) : UfS H C R n (fun k => r.getD k 0) := ⟨up, h, ok, hn, fun k hk => (hs.2 k (by omega)).symm⟩
theorem rt_rho {up : List Nat} (ok : UfOk up) (n : Nat) : ∀ k, k < n → rt up k ≤ k ∧ rt up (rt up k) = rt up k := fun k _ => ⟨rt_le ok k, rt_root (rt_fix ok k)⟩
theorem rho06 {up r : List Nat} (ok : UfOk up) (h : Same06 up r) : ∀ k, k < up.length → r.getD k 0 ≤ k ∧ r.getD (r.getD k 0) 0 = r.getD k 0 := fun k hk => by
  have h1 := rt_le ok k
  rw [h.2 k hk, h.2 _ (by omega)]
  exact ⟨h1, rt_root (rt_fix ok k)⟩
def inR' (k : Nat) (a : Int) : Bool := decide (0 ≤ a) && decide (a < k)


end Go.Proofs.Ytcjfjoilgnlemaa.PL
