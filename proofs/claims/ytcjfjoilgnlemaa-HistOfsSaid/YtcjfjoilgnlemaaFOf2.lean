/- What is said of any table: by the reference, all of it; keys of the map. -/
import Derived.Test.YtcjfjoilgnlemaaFOf1
namespace Go.Proofs.Ytcjfjoilgnlemaa.PL
open Go.Proofs
set_option linter.unusedVariables false
set_option linter.unusedSimpArgs false
noncomputable def staK (t : Tab) (k : Nat) : List CSt := (List.range k).map (colT t)
noncomputable def staT (t : Tab) : Sta := ⟨t.rows.length, staK t t.cols.length⟩
theorem staK_next (t : Tab) (k : Nat) : staK t (k + 1) = staK t k ++ [colT t k] := by simp [staK, List.range_succ]
theorem staK_len (t : Tab) (k : Nat) : (staK t k).length = k := by simp [staK]
def RO (t : Tab) (i : Nat) (H : List HO) : Prop := ∃ c1 J x o, c1.length = 2 ∧ H = .box t.cs :: .box c1 :: .box [.int .i64 t.rows.length, x] :: J ∧ Gq 3 3 J x (csts (staK t i)) o
theorem T_rof27 (t : Tab) (hr : t.rows.length ≤ 1000) (hrl : ∀ r, r ∈ t.rows → r.length < 4611686018427387904) (hc : t.cols.length ≤ 1000) : T Try.prog 25 [t.av] (staT t).av := by
  refine T.introF (TS.body mix Try.func25 (by kernel_rfl) rfl (by kernel_rfl) (by simp) ?_)
  simp
  refine vc_loop (fun i : Nat => t.cols.length - i) (fun i e H => e 1 = .ptr 0 0 ∧ e 2 = .ptr 1 0 ∧ e 3 = .ptr 2 0 ∧ e 4 = .int .i64 i ∧ i ≤ t.cols.length ∧ RO t i H) 0 ?_ ?_
  · simp
    exact ⟨_, [], _, none, rfl, rfl, by simp [Gq, staK]⟩
  rintro i e H ⟨e1, e2, e3, e4, hi, c1, J, x, o, hc1, rfl, hg⟩
  by_cases hlt : i < t.cols.length
  · have ew := wrap_next hlt (by omega)
    have kc := T_rcol27 t i hr hrl (by omega)
    have hnx := staK_next t i
    have hkl := staK_len t i
    simp [e1, e2, e3, e4, hlt]
    refine TDK.callW kc (Dws.self (by simp)) ?_
    cases o with
    | none =>
      obtain ⟨z0, zx⟩ := hg
      rw [avs_eq_nil] at z0
      rw [z0] at hnx
      have ex : x.ex = .sl .exact [] := by rcases zx with h | h <;> rw [h] <;> rfl
      simp [e1, e2, e3, e4, hlt, ex]
      refine ⟨i + 1, by omega, ew, by omega, c1, _, _, some J.length, hc1, rfl, ?_⟩
      rw [hnx]
      simp [Gq]
    | some w =>
      obtain ⟨rfl, hw⟩ := hg
      have hwl := (List.getElem?_eq_some_iff.1 hw).1
      simp only [avs_length] at hw
      simp [e1, e2, e3, e4, hlt, hw]
      refine ⟨⟨by omega, by omega⟩, i + 1, by omega, ew, by omega, c1, _, _, some w, hc1, rfl, ?_⟩
      rw [hnx]
      exact ⟨by simp, by rw [List.getElem?_set_self hwl]; simp⟩
  · have : i = t.cols.length := by omega
    subst this
    obtain ⟨own, rfl⟩ := hg.own
    match c1, hc1 with
    | [u0, u1], _ =>
    simp [e1, e2, e3, e4]
    exact .agg (.cons (Frz.of_cl2 (by simp [staT])) (.cons (Frz.slN (f := CSt.av)) .nil))
/-- values as keys -/
theorem ck_val (Γ : Gh) (vs : List Value) (b : Bool) (w : World) (v : Val) (h : VRs Γ [.int .i64 v.k, .int .i64 v.i, .str v.s] vs) : (Instr.checkKey b 10000 51 (.agg vs.toArray)).run Try.prog w = .ok () w := by
  cases h with
  | cons h1 h =>
  cases h with
  | cons h2 h =>
  cases h with
  | cons h3 h =>
  cases h
  cases h1; cases h2; cases h3
  show (Instr.checkKey b (9998 + 1 + 1) _ _).run Try.prog w = _
  have hu := Try.underlying51
  generalize 9998 = d
  simp [Instr.checkKey, run_underlying' hu]
  have e1 : (part 3 #[Value.int .i64 v.k, Value.int .i64 v.i, Value.string v.s] 0).run Try.prog w = .ok (.int .i64 v.k) w := run_part_one ag_3 (by simp) w
  have e2 : (part 3 #[Value.int .i64 v.k, Value.int .i64 v.i, Value.string v.s] 1).run Try.prog w = .ok (.int .i64 v.i) w := run_part_one ag_3 (by simp) w
  have e3 : (part 9 #[Value.int .i64 v.k, Value.int .i64 v.i, Value.string v.s] 2).run Try.prog w = .ok (.string v.s) w := run_part_one ag_9 (by simp) w
  simp only [e1, e2, e3, Result.andThen_ok]
noncomputable instance instDecVal : DecidableEq Val := fun a b => Classical.propDecidable _
theorem eqc_val (a b : Val) : eqCells [.int .i64 a.k, .int .i64 a.i, .str a.s] [.int .i64 b.k, .int .i64 b.i, .str b.s] = decide (a = b) := by
  have := val_dec a b
  simp only [eqCells_int, eqCells_str, eqCells_nil, toList_beq, ints_beq, Bool.and_true]
  rw [Bool.eq_iff_iff]
  simp only [Bool.and_eq_true, decide_eq_true_eq]
  rw [decide_eq_true_iff] at this
  exact ⟨fun h => this.1 ⟨h.1, h.2.1, h.2.2⟩, fun h => by have := this.2 h; exact ⟨this.1, this.2.1, this.2.2⟩⟩
theorem eqt_val (a b : Val) : EqT Try.prog 51 [.int .i64 a.k, .int .i64 a.i, .str a.s] [.int .i64 b.k, .int .i64 b.i, .str b.s] := EqT.flat [.int, .int, .str] (by kernel_rfl) rfl rfl (by simp [kindsFit])
theorem bits_val (Γ : Gh) (a b : Val) (vs us : List Value) (h1 : VRs Γ [.int .i64 a.k, .int .i64 a.i, .str a.s] vs) (h2 : VRs Γ [.int .i64 b.k, .int .i64 b.i, .str b.s] us) (he : eqCells [.int .i64 a.k, .int .i64 a.i, .str a.s] [.int .i64 b.k, .int .i64 b.i, .str b.s] = true) : Instr.sameBits 10000 (.agg us.toArray) (.agg vs.toArray) = true := by
  rw [eqc_val] at he
  have hab := of_decide_eq_true he
  subst hab
  cases h1 with
  | cons p1 h1 =>
  cases h1 with
  | cons p2 h1 =>
  cases h1 with
  | cons p3 h1 =>
  cases h1
  cases p1; cases p2; cases p3
  cases h2 with
  | cons p1 h2 =>
  cases h2 with
  | cons p2 h2 =>
  cases h2 with
  | cons p3 h2 =>
  cases h2
  cases p1; cases p2; cases p3
  show Instr.sameBits (9998 + 1 + 1) _ _ = true
  generalize 9998 = d
  simp [Instr.sameBits, bytes_beq]
theorem same_val (a b : Val) : sameKs Try.prog 51 [.int .i64 a.k, .int .i64 a.i, .str a.s] [.int .i64 b.k, .int .i64 b.i, .str b.s] := ⟨eqt_val a b, fun Γ vs us h1 h2 he => bits_val Γ a b vs us h1 h2 he⟩
theorem key_val (a : Val) : keyT Try.prog 51 a.av := ⟨⟨_, Try.underlying51⟩, fun Γ vs b w h => ck_val Γ vs b w a h⟩
instance : KeyF Val.av := ⟨fun a b => by
  show eqCells _ _ = _
  rw [eqc_val]⟩
theorem keys_val {β : Type} {g : β → AV} (k : Val) (l : List (Val × β)) : keysT Try.prog 51 k.av (mpA Val.av g l) := by
  refine ⟨key_val k, fun e he => ?_⟩
  simp only [mpA, List.mem_map] at he
  obtain ⟨p, _, rfl⟩ := he
  exact ⟨key_val p.1, same_val k p.1⟩
end Go.Proofs.Ytcjfjoilgnlemaa.PL
