/- The page's example of layer 16. -/
import Derived.Test.YtcjfjoilgnlemaaFNorm5
namespace Go.Proofs.Ytcjfjoilgnlemaa.PL
open Go.Proofs
set_option linter.unusedVariables false
set_option linter.unusedSimpArgs false
def lcE : Ex' := .mk 15 ByteArray.empty ByteArray.empty 1 0 zV []
def laE : Ex' := .mk 15 ByteArray.empty ByteArray.empty 0 0 zV []
def l16 : Qry := ⟨[], [⟨0, ⟨#[97]⟩, ByteArray.empty, .mk 0 ByteArray.empty ByteArray.empty 0 0 zV []⟩, ⟨1, ⟨#[98]⟩, ByteArray.empty, .mk 1 ByteArray.empty ByteArray.empty 0 0 zV [laE, lcE]⟩], .mk 13 ByteArray.empty ByteArray.empty 0 0 zV [lcE], []⟩
theorem live16_is : (normR l16).core = 2 ∧ (normR l16).edges.length = 1 ∧ (normR l16).scan.length = 2 ∧ ((normR l16).scan.getD 1 []).length = 1 := by decide +kernel
end Go.Proofs.Ytcjfjoilgnlemaa.PL
