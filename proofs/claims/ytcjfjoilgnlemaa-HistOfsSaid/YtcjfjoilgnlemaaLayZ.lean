/- A contract of the library, laid at this program: what slices.AppendSeq's text is. -/
import Derived.Shelf.SlIterI.Collect
import Derived.Test.YtcjfjoilgnlemaaProg
namespace Go.Proofs
open Go.Shelf
def Try.layZ_ren : Go.Shelf.Ren := ⟨fun | 11 => 123 | n => n, fun | 0 => 0 | 24 => 22 | 26 => 3 | 28 => 98 | 33 => 123 | n => n, fun | n => n⟩
theorem Try.layZ : Go.Proofs.SlLaysZI.n11 Try.prog Try.layZ_ren := {
  mixed := by kernel_rfl
  f11 := ⟨Try.f123.name, by decide, Try.func123.trans (congrArg some (by kernel_rfl))⟩
  t0 := Try.underlying0
  a0 := Try.isAgg0
  z0 := Try.sizeOf0
  v0 := Try.zeroValue0
  t24 := Try.underlying22
  a24 := Try.isAgg22
  z24 := Try.sizeOf22
  v24 := Try.zeroValue22
  t26 := Try.underlying3
  a26 := Try.isAgg3
  z26 := Try.sizeOf3
  v26 := Try.zeroValue3
  t28 := Try.underlying98
  a28 := Try.isAgg98
  z28 := Try.sizeOf98
  v28 := Try.zeroValue98
  i26 := by kernel_rfl }
end Go.Proofs
