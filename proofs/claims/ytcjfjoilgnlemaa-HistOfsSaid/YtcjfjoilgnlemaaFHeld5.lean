/- What is said of tables: the statement. -/
import Derived.Test.YtcjfjoilgnlemaaFHeld4
namespace Go.Proofs.Ytcjfjoilgnlemaa.PL
open Go.Proofs
set_option linter.unusedVariables false
set_option linter.unusedSimpArgs false
/-- some columns done, by the reference -/
def RSt (s : Sta) (k : Nat) (H : List HO) : Prop := ∃ c1 x J, c1.length = 2 ∧ H = .box s.cs :: .box c1 :: .box [.int .i64 (cutF s.rows), x] :: J ∧ ((k = 0 ∧ (x = .sl .nil [] ∨ x = .sl .exact [])) ∨ ∃ t, x = .sl (.tok (t + 3)) (csts (heldK s k)) ∧ J[t]? = some (.spare k 3))
theorem colI_at {s : Sta} {i : Nat} : colI s i = if h : i < s.cols.length then s.cols[i] else zC := by
  split
  · rename_i h; exact colI_in h
  · unfold colI; rw [if_neg (by omega)]
set_option maxRecDepth 4000 in
set_option maxHeartbeats 2000000 in
theorem T_rheld27 (s : Sta) (cols : Int) (hs : OkS s) : T Try.prog 19 [s.av, .int .i64 cols] (heldF s cols).av := by
  have hc := cutF_in s.rows
  obtain ⟨hn1, hn2⟩ := near16 cols
  have kn := T_rnear27 cols 16 (by omega)
  rw [← hn1] at kn
  unfold heldF
  obtain ⟨n, hn⟩ : ∃ n, n = (nearF cols 16).toNat := ⟨_, rfl⟩
  rw [← hn] at hn2 kn ⊢
  refine T.introF (TS.body mix Try.func19 (by kernel_rfl) rfl (by kernel_rfl) (by simp) ?_)
  simp
  refine TS.callW (T_rcut26 s.rows) (Dws.self (by simp)) ?_
  simp
  refine vc_loop (fun i : Nat => n - i) (fun i e H => e 1 = .int .i64 cols ∧ e 2 = .ptr 0 0 ∧ e 4 = .ptr 1 0 ∧ e 5 = .ptr 2 0 ∧ e 6 = .int .i64 i ∧ i ≤ n ∧ RSt s i H) 0 ?_ ?_
  · simp
    exact ⟨_, _, [], rfl, rfl, .inl ⟨rfl, .inr rfl⟩⟩
  rintro i e H ⟨e1, e2, e4, e5, e6, hi, c1, x, J, hc1, rfl, hg⟩
  simp [e1, e2, e4, e5, e6]
  refine TS.callW kn (Dws.self (by simp)) ?_
  by_cases hlt : i < n
  · have ew := wrap_next hlt (by omega)
    have hcm := colI_ok hs i
    have hci := colI_at (s := s) (i := i)
    obtain ⟨cl, hcl⟩ : ∃ cl, cl = colI s i := ⟨_, rfl⟩
    rw [← hcl] at hcm hci
    have hnn := nearF_in (n := cl.nul) hc.1
    have hw : IntKind.i64.wrap (cutF s.rows - nearF cl.nul (cutF s.rows)) = cutF s.rows - nearF cl.nul (cutF s.rows) := wrap_i64 (by omega) (by omega)
    have hnx : heldK s (i + 1) = heldK s i ++ [heldC (cutF s.rows) cl] := by rw [heldK_next, ← hcl]
    have hkl := heldK_len s i
    have k1 := T_rnear27 cl.nul (cutF s.rows) hc.1
    have k2 := T_rnear27 cl.unl (cutF s.rows - nearF cl.nul (cutF s.rows)) (by omega)
    have k3 := T_rnear27 cl.marks.length 9 (by omega)
    have hm9 : nearF (cl.marks.length : Int) 9 = ((min cl.marks.length 9 : Nat) : Int) := by unfold nearF; omega
    rw [hm9] at k3
    have htk : cl.marks.take (min cl.marks.length 9) = cl.marks.take 9 := by
      rcases Nat.le_total cl.marks.length 9 with h | h
      · rw [Nat.min_eq_left h, List.take_of_length_le (Nat.le_refl _), List.take_of_length_le h]
      · rw [Nat.min_eq_right h]
    have k4 := T_rsort (cl.marks.take 9) (by rw [List.length_take]; omega)
    by_cases hin : i < s.cols.length
    · rw [dif_pos hin] at hci
      simp [e1, e2, e4, e5, e6, hlt, hin]
      rw [← hci]
      refine TS.callW k1 (Dws.self (by simp)) ?_
      simp [e1, e2, e4, e5, e6, hlt, hw]
      refine TS.callW k2 (Dws.self (by simp)) ?_
      simp [e1, e2, e4, e5, e6, hlt, hw]
      refine TDK.callW k3 (Dws.self (by simp)) ?_
      simp [e1, e2, e4, e5, e6, hlt, hw]
      refine ⟨by omega, ?_⟩
      rw [htk]
      refine TDK.callW k4 (.cons (.sl (Dws.self (by simp))) .nil) ?_
      obtain ⟨A, hA⟩ : ∃ A, A = heldK s i := ⟨_, rfl⟩
      obtain ⟨z, hz⟩ : ∃ z, z = heldC (cutF s.rows) cl := ⟨_, rfl⟩
      have hzu : z.unl = nearF cl.unl (cutF s.rows - nearF cl.nul (cutF s.rows)) := by rw [hz]; rfl
      have hzn : z.nul = nearF cl.nul (cutF s.rows) := by rw [hz]; rfl
      have hzm : z.marks = sortI (cl.marks.take 9) := by rw [hz]; rfl
      rw [← hA] at hg hnx hkl
      rw [← hz] at hnx
      rw [← hzu, ← hzn, ← hzm]
      rcases hg with ⟨rfl, hx⟩ | ⟨t, rfl, ht⟩
      · have ex : x.ex = .sl .exact [] := by rcases hx with h | h <;> rw [h] <;> rfl
        have hA0 : A = [] := List.eq_nil_of_length_eq_zero hkl
        simp [e1, e2, e4, e5, e6, hlt, hw, ex]
        refine ⟨1, by omega, rfl, by omega, c1, _, _, hc1, rfl, .inr ⟨J.length + 1, ?_, ?_⟩⟩
        · rw [hnx, hA0]; rfl
        · simp
      · have htl := (List.getElem?_eq_some_iff.1 ht).1
        have ht' : ∀ Y : List HO, (J ++ Y)[t]? = some (.spare i 3) := fun Y => getElem?_app ht
        simp [e1, e2, e4, e5, e6, hlt, hw, ht', hkl]
        refine ⟨⟨by omega, by omega⟩, i + 1, by omega, ew, by omega, c1, _, _, hc1, rfl, .inr ⟨t, ?_, ?_⟩⟩
        · rw [hnx]
        · rw [List.getElem?_set_self (by simp; omega)]
    · rw [dif_neg hin] at hci
      rw [hci] at hnx
      have k1 := T_rnear27 0 (cutF s.rows) hc.1
      have hnn := nearF_in (n := 0) hc.1
      have hw : IntKind.i64.wrap (cutF s.rows - nearF 0 (cutF s.rows)) = cutF s.rows - nearF 0 (cutF s.rows) := wrap_i64 (by omega) (by omega)
      have k2 := T_rnear27 0 (cutF s.rows - nearF 0 (cutF s.rows)) (by omega)
      have k3 := T_rnear27 0 9 (by omega)
      have h09 : nearF 0 9 = 0 := by decide
      rw [h09] at k3
      have k4 := T_rsort [] (by simp)
      simp [e1, e2, e4, e5, e6, hlt, hin]
      refine TS.callW k1 (Dws.self (by simp)) ?_
      simp [e1, e2, e4, e5, e6, hlt, hw]
      refine TS.callW k2 (Dws.self (by simp)) ?_
      simp [e1, e2, e4, e5, e6, hlt, hw]
      refine TDK.callW k3 (Dws.self (by simp)) ?_
      simp [e1, e2, e4, e5, e6, hlt, hw]
      refine TDK.callW k4 (.cons (.sl .nil) .nil) ?_
      obtain ⟨A, hA⟩ : ∃ A, A = heldK s i := ⟨_, rfl⟩
      obtain ⟨z, hz⟩ : ∃ z, z = heldC (cutF s.rows) zC := ⟨_, rfl⟩
      have hzu : z.unl = nearF 0 (cutF s.rows - nearF 0 (cutF s.rows)) := by rw [hz]; rfl
      have hzn : z.nul = nearF 0 (cutF s.rows) := by rw [hz]; rfl
      have hzm : z.marks = sortI ([]) := by rw [hz]; rfl
      rw [← hA] at hg hnx hkl
      rw [← hz] at hnx
      rw [← hzu, ← hzn, ← hzm]
      rcases hg with ⟨rfl, hx⟩ | ⟨t, rfl, ht⟩
      · have ex : x.ex = .sl .exact [] := by rcases hx with h | h <;> rw [h] <;> rfl
        have hA0 : A = [] := List.eq_nil_of_length_eq_zero hkl
        simp [e1, e2, e4, e5, e6, hlt, hw, ex]
        refine ⟨1, by omega, rfl, by omega, c1, _, _, hc1, rfl, .inr ⟨J.length + 1, ?_, ?_⟩⟩
        · rw [hnx, hA0]; rfl
        · simp
      · have htl := (List.getElem?_eq_some_iff.1 ht).1
        have ht' : ∀ Y : List HO, (J ++ Y)[t]? = some (.spare i 3) := fun Y => getElem?_app ht
        simp [e1, e2, e4, e5, e6, hlt, hw, ht', hkl]
        refine ⟨⟨by omega, by omega⟩, i + 1, by omega, ew, by omega, c1, _, _, hc1, rfl, .inr ⟨t, ?_, ?_⟩⟩
        · rw [hnx]
        · rw [List.getElem?_set_self (by simp; omega)]
  · have : i = n := by omega
    subst this
    match c1, hc1 with
    | [u0, u1], _ =>
    have hxo : ∃ own, x = .sl own (csts (heldK s i)) := by
      rcases hg with ⟨rfl, h | h⟩ | ⟨t, h, _⟩
      · exact ⟨_, by rw [h]; rfl⟩
      · exact ⟨_, by rw [h]; rfl⟩
      · exact ⟨_, h⟩
    obtain ⟨own, rfl⟩ := hxo
    simp [e1, e2, e4, e5, e6]
    exact .agg (.cons (Frz.of_cl2 (by simp)) (.cons (Frz.slN (f := CSt.av)) .nil))
end Go.Proofs.Ytcjfjoilgnlemaa.PL
