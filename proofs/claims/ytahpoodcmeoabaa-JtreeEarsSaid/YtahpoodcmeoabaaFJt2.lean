/- Trees by their parents: from the root on. -/
import Derived.Test.YtahpoodcmeoabaaFJt1
import Derived.Test.YtahpoodcmeoabaaFStabI4
namespace Go.Proofs.Ytahpoodcmeoabaa.PL
open Go.Proofs
set_option linter.unusedVariables false
set_option linter.unusedSimpArgs false
/-- how many are on the way up -/
def dpt (ps : List Int) (x : Int) : Nat := (upI ps x).length
def dleP (ps : List Int) (x y : Int) : Prop := dpt ps x < dpt ps y ∨ (dpt ps x = dpt ps y ∧ x ≤ y)
theorem T_down1 (ps : List Int) (x y : Int) (hl : ps.length ≤ 1000000) : T Try.prog 97 [.int .i64 x, .int .i64 y, capA ps] (.int .i64 ((dpt ps x : Int) - (dpt ps y : Int))) := by
  have k1 := T_up ps x hl
  have k2 := T_up ps y hl
  have h1 : (upI ps x).length ≤ ps.length := upF_len _ _
  have h2 : (upI ps y).length ≤ ps.length := upF_len _ _
  have ew : IntKind.i64.wrap (((upI ps x).length : Int) - ((upI ps y).length : Int)) = ((upI ps x).length : Int) - ((upI ps y).length : Int) := wrap_i64 (by omega) (by omega)
  refine T.intro (TS.body mix Try.func97 (by kernel_rfl) rfl (by kernel_rfl) (by simp) ?_)
  simp
  refine TDK.callW k1 (Dws.self (by simp)) ?_
  simp
  refine TDK.callW k2 (Dws.self (by simp)) ?_
  simp [ew, dpt]
theorem downC (ps : List Int) (hl : ps.length ≤ 1000000) : Cmp3Q 97 ps (fun x y => (dpt ps x : Int) - (dpt ps y : Int)) (dleP ps) (fun x y => x < y) (fun _ => True) :=
  ⟨fun x y _ _ => T_down1 ps x y hl, fun x y z h1 h2 => by unfold dleP at *; omega, fun x y h => by unfold dleP at *; omega, fun x y h => by unfold dleP; omega⟩
/-- numbers up to n -/
def upTo (n : Nat) : List Int := (List.range n).map fun (k : Nat) => (k : Int)
theorem upTo_next (n : Nat) : upTo (n + 1) = upTo n ++ [(n : Int)] := by unfold upTo; rw [List.range_succ, List.map_append]; rfl
theorem upTo_len (n : Nat) : (upTo n).length = n := by simp [upTo]
theorem upTo_pw (n : Nat) : (upTo n).Pairwise fun x y => x < y := by
  unfold upTo
  rw [List.pairwise_map]
  exact List.Pairwise.imp (fun h => by omega) List.pairwise_lt_range
/-- from the root on: by depth, and by number -/
def DownOf (ps Z : List Int) : Prop := Z.Perm (upTo ps.length) ∧ Z.Pairwise (dleP ps)
theorem DownOf.uniq {ps Z W : List Int} (h : DownOf ps Z) (k : DownOf ps W) : Z = W := by
  refine List.Perm.eq_of_pairwise (le := dleP ps) (fun a b _ _ h1 h2 => ?_) h.2 k.2 (h.1.trans k.1.symm)
  unfold dleP at h1 h2
  omega
instance (ps : List Int) (x y : Int) : Decidable (dleP ps x y) := by unfold dleP; exact inferInstance
def downI (ps : List Int) : List Int := (upTo ps.length).mergeSort fun x y => decide (dleP ps x y)
theorem downI_of (ps : List Int) : DownOf ps (downI ps) := by
  refine ⟨List.mergeSort_perm _ _, ?_⟩
  have := List.pairwise_mergeSort (le := fun x y => decide (dleP ps x y)) (fun a b c h1 h2 => by simp only [decide_eq_true_iff] at *; unfold dleP at *; omega) (fun a b => by
    rw [Bool.or_eq_true, decide_eq_true_iff, decide_eq_true_iff]; unfold dleP; omega) (upTo ps.length)
  refine this.imp fun h => ?_
  simpa using h
theorem downI_len (ps : List Int) : (downI ps).length = ps.length := by rw [(downI_of ps).1.length_eq, upTo_len]
theorem S_insNil (H : List HO) (cv : AV) : TS Try.prog 170 [.sl .nil [], .int .i64 0, .int .i64 0, cv] H (pt (.tup []) H) := by
  refine TS.body mix Try.func170 (by kernel_rfl) rfl (by kernel_rfl) (by simp) ?_
  simp
  refine vc_rnds 1 ?_
  simp
theorem S_stblNil (H : List HO) (cv : AV) : TS Try.prog 151 [.sl .nil [], .int .i64 0, cv] H (pt (.tup []) H) := by
  refine TS.body mix Try.func151 (by kernel_rfl) rfl (by kernel_rfl) (by simp) ?_
  simp
  refine vc_rnds 1 ?_
  simp
  refine TS.pt (S_insNil H cv) ?_
  simp
  refine vc_rnds 1 ?_
  simp
theorem S_stabNil (H : List HO) (cv : AV) : TS Try.prog 96 [.sl .nil [], cv] H (pt (.tup []) H) := by
  refine TS.body mix Try.func96 (by kernel_rfl) rfl (by kernel_rfl) (by simp) ?_
  simp
  refine TS.pt (S_stblNil H cv) ?_
  simp
set_option maxRecDepth 4000 in
theorem T_down (ps : List Int) (hl : ps.length < 60) : T Try.prog 21 [.sl .no (ints' ps)] (.sl .no (ints' (downI (heldI ps)))) := by
  have kh := T_held ps (by omega)
  have hq := heldI_len ps
  have hdo := downI_of (heldI ps)
  have hdl := downI_len (heldI ps)
  have hC := downC (heldI ps) (by omega)
  generalize downI (heldI ps) = Z at *
  generalize heldI ps = q at *
  refine T.introF (TS.bodyM [15] mix Try.func21 (by kernel_rfl) rfl (by kernel_rfl) (by simp) ?_)
  simp
  refine TS.callW kh (Dws.self (by simp)) ?_
  simp
  refine vc_loop (fun i : Nat => q.length - i) (fun i e H => e 1 = .ptr 0 0 ∧ e 8 = .int .i64 q.length ∧ e 9 = .int .i64 i ∧ i ≤ q.length ∧ ((i = 0 ∧ e 3 = .sl .nil [] ∧ H = [.box [.sl .no (ints' q)]]) ∨ (0 < i ∧ e 3 = .mv 1 i 1 0 i ∧ H = [.box [.sl .no (ints' q)], .row i 1 (ints' (upTo i))]))) 0 ?_ ?_
  · simp
  rintro i e H ⟨e1, e8, e9, hi, hc⟩
  by_cases hlt : i < q.length
  · have ew := wrap_next hlt (by omega)
    have hnx := upTo_next i
    rcases hc with ⟨rfl, e3, rfl⟩ | ⟨hp, e3, rfl⟩
    · simp only [Int.natCast_zero] at e9
      simp [e1, e3, e8, e9, hlt]
      exact ⟨1, by omega, by simp, by omega, by omega, rfl, rfl⟩
    · simp [e1, e3, e8, e9, hlt]
      refine ⟨⟨by omega, by omega⟩, i + 1, by omega, ew, by omega, by omega, rfl, ?_⟩
      rw [hnx]
  have hiq : i = q.length := by omega
  rcases hc with ⟨h0, e3, rfl⟩ | ⟨hp, e3, rfl⟩
  · have hZ : Z = [] := List.eq_nil_of_length_eq_zero (by omega)
    subst hZ
    rw [← hiq, h0] at e8
    rw [h0] at e9
    simp only [Int.natCast_zero] at e8 e9
    simp [e1, e3, e8, e9]
    refine TS.pt (S_stabNil _ _) ?_
    simp [e1, e3, e8, e9]
    exact Frz.slN (f := AV.int .i64) (l := [])
  · have e8' : e 8 = .int .i64 (i : Int) := by rw [e8, hiq]
    have ks := S_stabQ hC [.gone, .row i 1 (ints' (upTo i))] 1 i (upTo i) (upTo_len i) (by omega) rfl (fun _ _ => trivial) (upTo_pw i)
    simp [e1, e3, e8', e9]
    refine TS.freeze (i := 0) rfl (.cons (.same _) (.cons (.fn (.cons .ptr .nil)) .nil)) ?_
    simp
    refine TS.mono ks ?_
    rintro _ _ ⟨rfl, W, hW1, hW2, rfl⟩
    have hWZ : W = Z := DownOf.uniq (ps := q) ⟨by rw [← hiq]; exact hW1, hW2⟩ hdo
    subst hWZ
    simp [e1, e3, e8', e9]
    exact Frz.mvA (f := AV.int .i64) (sz := 1) (l := W) (by simp) (by rw [hdl, hiq])
end Go.Proofs.Ytahpoodcmeoabaa.PL
