/- slices.Sorted on what slices.Values tells. -/
import Derived.Test.YtcjfjoilgnlemaaFSeq
namespace Go.Proofs.Ytcjfjoilgnlemaa.PL
open Go.Proofs
set_option linter.unusedVariables false
set_option linter.unusedSimpArgs false
theorem S_collNone {H : List HO} {k : Nat} {own : Own} (hk : H[k]? = some (.box [.sl own (ints' [])])) : TS Try.prog 104 [.fn (.func 105) [] [.ptr k 0]] H (pt (.sl .nil []) H) := by
  refine TS.body mix Try.func104 (by kernel_rfl) rfl (by kernel_rfl) (by simp) ?_
  simp
  refine TS.pt (S_appNone hk) ?_
  simp
theorem S_collSome {H : List HO} {k : Nat} {own : Own} {l : List Int} (hk : H[k]? = some (.box [.sl own (ints' l)])) (h0 : l ≠ []) (hl : l.length ≤ 1000000) : TS Try.prog 104 [.fn (.func 105) [] [.ptr k 0]] H (pt (.mv H.length l.length 1 0 l.length) (H ++ [.row l.length 1 (ints' l)])) := by
  refine TS.body mix Try.func104 (by kernel_rfl) rfl (by kernel_rfl) (by simp) ?_
  simp
  refine TS.pt (S_appSome hk h0 hl) ?_
  simp
theorem S_sortedNone {H : List HO} {k : Nat} {own : Own} (hk : H[k]? = some (.box [.sl own (ints' [])])) : TS Try.prog 57 [.fn (.func 105) [] [.ptr k 0]] H (pt (.sl .nil []) H) := by
  refine TS.body mix Try.func57 (by kernel_rfl) rfl (by kernel_rfl) (by simp) ?_
  simp
  refine TS.pt (S_collNone hk) ?_
  simp
  refine TS.pt S_sortNone ?_
  simp
theorem S_sortedSome {H : List HO} {k : Nat} {own : Own} {l : List Int} (hk : H[k]? = some (.box [.sl own (ints' l)])) (h0 : l ≠ []) (hl : l.length ≤ 1000000) : TS Try.prog 57 [.fn (.func 105) [] [.ptr k 0]] H (pt (.mv H.length l.length 1 0 l.length) (H ++ [.row l.length 1 (ints' (sortI l))])) := by
  refine TS.body mix Try.func57 (by kernel_rfl) rfl (by kernel_rfl) (by simp) ?_
  simp
  refine TS.pt (S_collSome hk h0 hl) ?_
  simp
  refine TS.pt (S_sortInts (H := H ++ [.row l.length 1 (ints' l)]) (i := H.length) (zs := l) rfl (by simp) (by omega) (List.length_pos_iff.2 h0)) ?_
  simp
theorem S_valuesI {H : List HO} {own : Own} {l : List Int} : TS Try.prog 58 [.sl own (ints' l)] H (pt (.fn (.func 105) [] [.ptr H.length 0]) (H ++ [.box [.sl own (ints' l)]])) := by
  refine TS.body mix Try.func58 (by kernel_rfl) rfl (by kernel_rfl) (by simp) ?_
  simp
end Go.Proofs.Ytcjfjoilgnlemaa.PL
