/- Kinds of expressions: conditions, groups. -/
import Derived.Test.YtaahlhhpmooliaaFKind2
namespace Go.Proofs.Ytaahlhhpmooliaa.PL
open Go.Proofs
set_option linter.unusedVariables false
set_option linter.unusedSimpArgs false
variable {ts : List Tab}
def reckons (o : Int) : Bool := (decide (7 ≤ o) && decide (o ≤ 9)) || (decide (17 ≤ o) && decide (o ≤ 21))
mutual
def plainE : Ex' → Bool
  | .mk op _ _ _ _ _ l => !reckons op && !unplainL l
def unplainL : List Ex' → Bool
  | [] => false
  | e :: l => !plainE e || unplainL l
end
theorem plainE_eq (e : Ex') : plainE e = (!reckons e.op && !unplainL e.l) := by cases e; rw [plainE]; rfl
theorem unplainL_any : ∀ l : List Ex', unplainL l = l.any fun x => !plainE x
  | [] => by simp [unplainL]
  | e :: l => by simp only [unplainL, List.any_cons, unplainL_any l]
theorem T_plain1 {x : Ex'} (h : T Try.prog 132 [x.av] (.bool (plainE x))) : T Try.prog 150 [x.av] (.bool (!plainE x)) := by
  simp only [Ex'.av_eq, Ex'.cs] at h
  refine T.intro (TS.body mix Try.func150 (by kernel_rfl) rfl (by kernel_rfl) (by simp) ?_)
  simp
  refine TS.callW h (Dws.self (by simp)) ?_
  simp
theorem T_plain (e : Ex') : OkE e → T Try.prog 132 [e.av] (.bool (plainE e)) := by
  induction e using Ex'.ind with
  | h a ih =>
  intro ha
  have hc := T_anyE 150 a.l (fun x => !plainE x) ha.len fun x hx => T_plain1 (ih x hx (ha.sub hx))
  refine T.intro (TS.body mix Try.func132 (by kernel_rfl) rfl (by kernel_rfl) (by simp) ?_)
  rw [plainE_eq, unplainL_any]
  unfold reckons
  simp
  repeat (refine ⟨by grind, ?_⟩)
  refine GTK.callW (fun _ => ⟨hc, Dws.self (by simp)⟩) ?_
  simp
  try grind
theorem T_rplain (e : Ex') : OkE e → e.nodes ≤ 1000000 → T Try.prog 34 [e.av] (.bool (plainE e)) := by
  induction e using Ex'.ind with
  | h a ih =>
  intro ha hn
  rw [Ex'.nodes_eq] at hn
  have hal := Ex'.len_le a.l
  refine T.intro (TS.body mix Try.func34 (by kernel_rfl) rfl (by kernel_rfl) (by simp) ?_)
  rw [plainE_eq, unplainL_any]
  have hr : ((decide (7 ≤ a.op) && decide (a.op ≤ 9)) || (decide (17 ≤ a.op) && decide (a.op ≤ 21))) = reckons a.op := rfl
  simp [hr]
  repeat (refine ⟨by grind, ?_⟩)
  cases reckons a.op with
  | true => simp
  | false =>
  simp
  refine vc_loop (fun i : Nat => a.l.length - i) (fun i en H => en 1 = .ptr 0 0 ∧ en 3 = .int .i64 i ∧ i ≤ a.l.length ∧ ((a.l.take i).any fun x => !plainE x) = false ∧ H = [.box a.cs]) 0 ?_ ?_
  · simp
  rintro i en H ⟨e1, e3, hi, hno, rfl⟩
  by_cases hlt : i < a.l.length
  · have hm := List.getElem_mem hlt
    have hc := ih _ hm (ha.sub hm) (by have := Ex'.nodesL_mem hm; omega)
    have ew := wrap_next hlt (by omega)
    simp only [Ex'.av_eq, Ex'.cs] at hc
    simp [e1, e3, hlt]
    refine TS.callW hc (Dws.self (by simp)) ?_
    cases hs : plainE a.l[i] with
    | false =>
      have : (a.l.any fun x => !plainE x) = true := List.any_eq_true.2 ⟨_, hm, by simp [hs]⟩
      simp at this
      simp [e1, e3, hlt]
      grind
    | true =>
      simp [e1, e3, hlt]
      have := any_next (q := fun x => !plainE x) hlt hno (by simp [hs])
      exact ⟨i + 1, by omega, ew, by omega, by simpa using this⟩
  · have hil : i = a.l.length := by omega
    subst hil
    rw [List.take_length] at hno
    simp at hno
    simp [e1, e3, hlt]
    grind
end Go.Proofs.Ytaahlhhpmooliaa.PL
