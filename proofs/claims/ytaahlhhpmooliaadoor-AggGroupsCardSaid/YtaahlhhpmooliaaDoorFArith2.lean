/- What sums of numbers tell. -/
import Derived.Test.YtaahlhhpmooliaaDoorFArith
namespace Go.Proofs.YtaahlhhpmooliaaDoor.PL
open Go.Proofs
set_option linter.unusedVariables false
set_option linter.unusedSimpArgs false
theorem and32i (a : Int) (h : isI a) : IntKind.i64.wrap (((a % 18446744073709551616).toNat &&& 4294967295 : Nat) : Int) = a % 4294967296 := by
  have e2 : (a % 18446744073709551616).toNat &&& 4294967295 = (a % 18446744073709551616).toNat % 4294967296 := Nat.and_two_pow_sub_one_eq_mod _ 32
  rw [e2, wrapI]
  omega
theorem quo32 (a : Int) : (a - a % 4294967296).tdiv 4294967296 = a / 4294967296 := by
  have : a - a % 4294967296 = 4294967296 * (a / 4294967296) := by omega
  rw [this]
  exact Int.mul_tdiv_cancel_left _ (by decide)
theorem sum_bound : ∀ (l : List Int), (∀ x, x ∈ l → isI x) → -(9223372036854775808 * (l.length : Int)) ≤ l.sum ∧ l.sum ≤ 9223372036854775808 * (l.length : Int)
  | [], _ => by simp
  | a :: l, h => by
    have h1 := h a (List.mem_cons_self ..)
    have h2 := sum_bound l fun x hx => h x (List.mem_cons_of_mem _ hx)
    unfold isI at h1
    simp only [List.sum_cons, List.length_cons]
    omega
theorem sum_next {l : List Int} {i : Nat} (h : i < l.length) : (l.take (i + 1)).sum = (l.take i).sum + l[i] := by
  rw [take_next h, List.sum_append]; simp


def sumC (x : Int) (n : Int) : List AV := [.int .u64 (hi64 x), .int .u64 (lo64 x), .int .i64 n]
theorem drop_prev {l : List Int} {i : Nat} (h : i < l.length) : (l.drop i).sum = l[i] + (l.drop (i + 1)).sum := by
  rw [List.drop_eq_getElem_cons h, List.sum_cons]
theorem ints_in {ys : List (List AV)} (hy : ∀ y, y ∈ ys → Sh Tryd.prog 3 y) : ∃ l : List Int, ys.map (mkAV false) = ints' l ∧ l.length = ys.length ∧ ∀ x, x ∈ l → isI x :=
  list_in (f := AV.int .i64) (g := mkAV false) (Q := isI) (fun y hy' => by
    obtain ⟨n, rfl, hn⟩ := (hy y hy').int_of un_3
    exact ⟨n, rfl, i64_wf hn⟩)
end Go.Proofs.YtaahlhhpmooliaaDoor.PL
