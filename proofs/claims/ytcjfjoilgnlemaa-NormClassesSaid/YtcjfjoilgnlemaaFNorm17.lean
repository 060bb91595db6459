/- Conditions, by where they are asked: any one more. -/
import Derived.Test.YtcjfjoilgnlemaaFNormA1
import Derived.Test.YtcjfjoilgnlemaaFNormA2
import Derived.Test.YtcjfjoilgnlemaaFNormB1
import Derived.Test.YtcjfjoilgnlemaaFNormB2
import Derived.Test.YtcjfjoilgnlemaaFNormC1
import Derived.Test.YtcjfjoilgnlemaaFNormC2
import Derived.Test.YtcjfjoilgnlemaaFNormD1
import Derived.Test.YtcjfjoilgnlemaaFNormD2
import Derived.Test.YtcjfjoilgnlemaaFNormE1
import Derived.Test.YtcjfjoilgnlemaaFNormE2
namespace Go.Proofs.Ytcjfjoilgnlemaa.PL
open Go.Proofs
set_option linter.unusedVariables false
set_option linter.unusedSimpArgs false
/-- the list that a condition goes to -/
def slotE (c : Nat) (e : Ex') : Option Nat := if whereE c e = 0 then some 0 else if whereE c e = 1 then some 1 else if whereE c e = 2 then some (((usesI e).headD 0).toNat + 2) else none
def addL (c : Nat) (e : Ex') (L : Nat → List Ex') (i : Nat) : List Ex' := if slotE c e = some i then L i ++ [e] else L i
def addE (c : Nat) (e : Ex') (E : List Edg) : List Edg := if whereE c e = 3 then E ++ [asEdge e] else E
theorem addL_some {c : Nat} {e : Ex'} {L : Nat → List Ex'} {s : Nat} (h : slotE c e = some s) : addL c e L = nup L s (L s ++ [e]) := by
  funext i
  unfold addL nup
  rw [h]
  by_cases hi : i = s
  · subst hi; simp
  · have : ¬ some s = some i := fun h => hi (Option.some.inj h).symm
    rw [if_neg this, if_neg hi]
theorem addL_none {c : Nat} {e : Ex'} {L : Nat → List Ex'} (h : slotE c e = none) : addL c e L = L := by
  funext i
  unfold addL
  rw [h]
  simp
theorem usesI_edge {e : Ex'} (h : isEdge e = true) : usesI e ≠ [] := by
  obtain ⟨op, tab, name, t, c, v, l⟩ := e
  match l, h with
  | [], h => cases h
  | [x], h => cases h
  | x :: y :: z :: l, h => cases h
  | [x, y], h =>
    have h1 : op = 1 ∧ x.op = 15 := by simp [isEdge] at h; exact ⟨of_decide_eq_true h.1.1.1, h.1.1.2⟩
    intro hU
    have : x.t ∈ usesI (Ex'.mk op tab name t c v [x, y]) := setI_mem.2 (by
      rw [Ex'.cols_eq, if_neg (by simp [h1.1])]
      show x.t ∈ List.map Ex'.t (Ex'.colsL [x, y])
      rw [Ex'.colsL, Ex'.cols_eq x, if_pos h1.2]
      simp)
    rw [hU] at this
    cases this
theorem S_add {b : Nat} {H : List HO} {N r c : Nat} {xl xe : AV} {E : List Edg} {oe : Option Nat} {x : Nat → AV} {L : Nat → List Ex'} {P : Nat → Option Nat} (e : Ex') (he : OkE e) (hn : e.nodes ≤ 1000000) (h : ASt b H N r c xl xe E oe x L P) (bE : E.length ≤ 1000000) (bL : ∀ i, (L i).length ≤ 1000000) : TS Try.prog 78 [.ptr N 0, e.av] H (fun _ H' => AP b H N r c xl (addE c e E) (addL c e L) H') := by
  by_cases hU : usesI e = []
  · have hD : isEdge e = false := by
      cases hd : isEdge e with
      | true => exact absurd hU (usesI_edge hd)
      | false => rfl
    have hw : whereE c e = 0 := by unfold whereE; rw [hU, hD]; simp
    have hs : slotE c e = some 0 := by unfold slotE; rw [if_pos hw]
    rw [addL_some hs, addE, if_neg (by omega)]
    cases hP : P 0 with
    | none => exact S_addRN e he hn h hU hP
    | some k => exact S_addRK e he hn h hU hP (bL 0)
  cases hA : (usesI e).any (outI c) with
  | true =>
    have hw : whereE c e = 1 := by unfold whereE; rw [hA]; simp
    have hs : slotE c e = some 1 := by unfold slotE; rw [if_neg (by omega), if_pos hw]
    rw [addL_some hs, addE, if_neg (by omega)]
    cases hP : P 1 with
    | none => exact S_addWN e he hn h hA hP
    | some k => exact S_addWK e he hn h hA hP (bL 1)
  | false =>
  by_cases hO : (usesI e).length = 1
  · have hw : whereE c e = 2 := by unfold whereE; rw [hA, if_pos hO]; simp
    obtain ⟨u, hu⟩ := where2 hw
    rw [hu] at hA
    have h0 : 0 ≤ u ∧ u < c := by simp [outI] at hA; exact hA
    obtain ⟨v, rfl⟩ := Int.eq_ofNat_of_zero_le h0.1
    have hv : v < c := by omega
    have hs : slotE c e = some (v + 2) := by unfold slotE; rw [if_neg (by omega), if_neg (by omega), if_pos hw, hu]; simp
    rw [addL_some hs, addE, if_neg (by omega)]
    cases hP : P (v + 2) with
    | none => exact S_addSN e he hn h hv hu hP
    | some k => exact S_addSK e he hn h hv hu hP (bL _)
  · cases hD : isEdge e with
    | true =>
      have hw : whereE c e = 3 := by unfold whereE; rw [hA, if_neg hO, if_pos hD]; simp
      have hs : slotE c e = none := by unfold slotE; rw [if_neg (by omega), if_neg (by omega), if_neg (by omega)]
      rw [addL_none hs, addE, if_pos hw]
      cases hP : oe with
      | none => exact S_addEN e he hn h hU hA hO hD hP
      | some k => exact S_addEK e he hn h hU hA hO hD hP bE
    | false =>
      have hw : whereE c e = 0 := by unfold whereE; rw [hA, if_neg hO, hD]; simp
      have hs : slotE c e = some 0 := by unfold slotE; rw [if_pos hw]
      rw [addL_some hs, addE, if_neg (by omega)]
      cases hP : P 0 with
      | none => exact S_addDN e he hn h hU hA hO hD hP
      | some k => exact S_addDK e he hn h hU hA hO hD hP (bL 0)
end Go.Proofs.Ytcjfjoilgnlemaa.PL
