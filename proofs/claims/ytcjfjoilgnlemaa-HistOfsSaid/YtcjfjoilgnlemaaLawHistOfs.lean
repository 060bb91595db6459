/- The law HistOfs holds whatever the input, and each argument reads behind the call as it read before. No condition. -/
import Derived.Test.YtcjfjoilgnlemaaRows
import Derived.Test.YtcjfjoilgnlemaaFOf4
import Derived.WalkKit
import Derived.ProofKit
import Derived.OpenShut
import Derived.ShutString
import Derived.ChangeOld
import Derived.Below
import Derived.SizedLaws
namespace Go.Proofs.Ytcjfjoilgnlemaa.histOfs
open Go.ChangeShapes Go.WideShapes Go.ChangeAt Go.RowKit
set_option linter.unusedVariables false
theorem own : ownKnob Try.prog.godebug = none := by kernel_rfl
set_option maxRecDepth 100000 in
theorem lifted (os : Os) (started : os.Started) (H : Type) (enc : TypeId × Value → H) :
    ReturnsInHanded {} Try.checked os 5 .any (Rows.histOfsSpec.pre6 enc Try.prog Try.f5 Rows.histOfsRow.domain false) (Rows.histOfsSpec.post enc Try.prog Try.f5 false true false false) := by
  refine returnsInHanded_of_change_sized (C := Try.checked) own started (by kernel_rfl) Try.func5
    (ChangeSpec.witness6 (enc := enc) (C := Try.checked) false ⟨#[], #[.agg #[.string ByteArray.empty, .slice none 0 0, .slice none 0 0]], []⟩ 8 (by kernel_rfl) (by kernel_rfl) (by kernel_rfl) (by kernel_rfl)) ?_
  intro W base args ds gs before hval0 hW hcnd hsz0 _
  have hsz : (DataW.weightsEach Try.prog (Try.f5.params.toList ++ Rows.histOfsSpec.plain.varTypes Try.prog) (ds ++ gs)).all (· ≤ reachBytes) = true := hsz0
  have hval : ∀ (j : Nat) t v, Try.f5.params[j]? = some t → args[j]? = some v → Value.okWide Try.prog W .any base t v := hval0
  have hW' := hW
  obtain ⟨p, q, hA0, hV, rfl, hfz, hnd⟩ := hW
  have hA : DataW.TrodAll enc Try.prog W 0 (fun _ => true) true Try.f5.params.toList args.toList ds p := hA0
  have hlt := hW'.lt
  obtain ⟨rfl, rfl⟩ := trodVars_none hV
  rw [Try.params5] at hA hval hsz
  have hA2 := hA
  obtain ⟨v0, vs0, d0, ds0, p0, q0, hargs, rfl, rfl, h0, r0⟩ := trodAll_cons hA
  obtain ⟨rfl, rfl, rfl⟩ := trodAll_nil r0
  obtain rfl : args = #[v0] := by cases args; simp_all
  have hok : ∀ (j : Nat) t v, [43][j]? = some t → [v0][j]? = some v → Value.okWide Try.prog W .any base t v := fun j t v h h' => hval j t v (by simpa using h) (by simpa using h')
  have hsz' : (DataW.weightsEach Try.prog [43] [d0]).all (· ≤ reachBytes) = true := hsz
  have hc := PL.law_calls (S := [43, 9, 40, 41, 106, 108, 3, 51]) (by kernel_rfl) (f := 5) hA2 (by decide) hok hsz' ⟨Try.f5, Try.func5, by kernel_rfl, by kernel_rfl⟩ (fun xs h => PL.S_HistOfs h) trivial
  refine hc.mono fun e W' ⟨he, bel⟩ => ?_
  subst he
  exact ⟨_, rfl, _, _, _, [], _, [], hW', trodAll_mk1 (shut_bool Try.underlying4 _), PL.args_back (by kernel_rfl) bel _ _ _ _ hA2 (by kernel_rfl) (by simpa using hlt), rfl, bel.frame _, fun h => by cases h⟩
theorem over : Rows.histOfsRow.holds Try.pinned (OpenSpec.ofChange Rows.histOfsSpec) :=
  OpenClaim.holds_of_wide 5 Try.f5 rfl rfl rfl rfl rfl rfl rfl ⟨rfl, rfl, rfl, rfl, rfl⟩ rfl rfl rfl rfl rfl (by kernel_rfl) Try.func5 (by kernel_rfl)
    (of_decide_eq_true (by kernel_rfl)) (by unfold Func.isWrapper; first | (rw [if_pos (by decide +kernel)]; kernel_rfl) | (rw [if_neg (by decide +kernel)]; exact ⟨rfl, rfl⟩))
    (fun os started H enc _ => lifted os started H enc)
end Go.Proofs.Ytcjfjoilgnlemaa.histOfs
namespace Go.Proofs.Ytcjfjoilgnlemaa
/-- The law, for the claim. -/
theorem histOfs_holds : Rows.HistOfsSaid := histOfs.over
end Go.Proofs.Ytcjfjoilgnlemaa
