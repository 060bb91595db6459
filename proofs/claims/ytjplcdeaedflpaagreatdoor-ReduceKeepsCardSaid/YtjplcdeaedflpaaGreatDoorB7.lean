/- Contracts of functions of the program, and plain laws (part 7): Relations in the order of a tree  all together along it; Relations along a tree: the statements of the same rows, and of sizes; Programs of semijoins: the statement; The rows that take part, by the reference  what no program takes. -/
import Derived.Test.YtjplcdeaedflpaaGreatDoorB1
import Derived.Test.YtjplcdeaedflpaaGreatDoorB6
namespace Go.Proofs.YtjplcdeaedflpaaGreatDoor.PL
open Go.Proofs Go.RowKit
set_option linter.unusedVariables false
set_option linter.unusedSimpArgs false
theorem prodR_set : ∀ (l : List Rel) (i : Nat) (r : Rel), r.rows.length ≤ (l.getD i zR).rows.length → prodR (l.set i r) ≤ prodR l
  | [], i, r, _ => Nat.le_refl _
  | a :: l, 0, r, h => Nat.mul_le_mul_right _ (by have : r.rows.length ≤ a.rows.length := h; omega)
  | a :: l, i + 1, r, h => Nat.mul_le_mul_left _ (prodR_set l i r h)
theorem OkL.step' {l : List Rel} (h : OkL l) (p : Int × Int) : OkL (stepJ l p) := by
  have hp := h.okP.step p
  refine ⟨hp.ok, hp.nc, hp.len, Nat.le_trans ?_ h.pr⟩
  unfold stepJ
  split
  · refine prodR_set l _ _ ?_
    refine Nat.le_trans (List.length_filter_le ..) ?_
    exact held_rows _
  · exact Nat.le_refl _
theorem OkL.play {prog : List (Int × Int)} : ∀ {l : List Rel}, OkL l → OkL (playJ l prog) := by
  induction prog with
  | nil => intro l h; exact h
  | cons p prog ih => intro l h; exact ih (h.step' p)
theorem prodR_range : ∀ (l : List Rel) (n : Nat), prodR ((List.range n).map fun i => l.getD i zR) ≤ prodR l
  | l, 0 => prodR_pos l
  | [], n + 1 => by
    have : ∀ m, prodR ((List.range m).map fun i => ([] : List Rel).getD i zR) = 1 := fun m => by
      rw [show ((List.range m).map fun i => ([] : List Rel).getD i zR) = List.replicate m zR from by
        apply List.ext_getElem
        · simp
        · intro i h1 h2; simp]
      induction m with
      | zero => rfl
      | succ m ih => rw [List.replicate_succ]; show (0 + 1) * _ = 1; rw [ih]
    rw [this]
    exact Nat.le_refl _
  | a :: l, n + 1 => by
    rw [List.range_succ_eq_map, List.map_cons, List.map_map]
    exact Nat.mul_le_mul_left _ (prodR_range l n)
def treeOrd (l : List Rel) (ps : List Int) : List Rel := (downI (heldI ps)).map fun n => l.getD n.toNat zR
theorem treeOrd_len (l : List Rel) (ps : List Int) : (treeOrd l ps).length ≤ ps.length := by
  unfold treeOrd
  rw [List.length_map, downI_len]
  exact heldI_len ps
theorem treeOrd_perm (l : List Rel) (ps : List Int) : (treeOrd l ps).Perm ((List.range (heldI ps).length).map fun i => l.getD i zR) := by
  have h := (downI_of (heldI ps)).1.map fun n : Int => l.getD n.toNat zR
  unfold treeOrd
  refine h.trans ?_
  unfold upTo
  rw [List.map_map]
  exact List.Perm.of_eq (List.map_congr_left fun i _ => by show l.getD (i : Int).toNat zR = _; rw [Int.toNat_natCast])
theorem OkL.order {l : List Rel} (h : OkL l) {ps : List Int} (hp : ps.length ≤ 40) : OkL (treeOrd l ps) := by
  have hin : ∀ r, r ∈ treeOrd l ps → OkR r ∧ r.cols.length ≤ 20 := fun r hr => by
    obtain ⟨n, _, rfl⟩ := List.mem_map.1 hr
    exact h.okP.getD _
  refine ⟨fun r hr => (hin r hr).1, fun r hr => (hin r hr).2, Nat.le_trans (treeOrd_len l ps) hp, ?_⟩
  rw [prodR_perm (treeOrd_perm l ps)]
  exact Nat.le_trans (prodR_range l _) h.pr
def ordF (l : List Rel) (Z : List Int) (i : Nat) : List Rel := (Z.take i).map fun n => l.getD n.toNat zR
theorem ordF_next {l : List Rel} {Z : List Int} {i m : Nat} (h : i < Z.length) (hm : Z[i] = (m : Int)) : ordF l Z (i + 1) = ordF l Z i ++ [l.getD m zR] := by
  unfold ordF
  rw [take_next h, List.map_append, hm]
  rfl
theorem ordF_len {l : List Rel} {Z : List Int} {i : Nat} (h : i ≤ Z.length) : (ordF l Z i).length = i := by unfold ordF; rw [List.length_map, List.length_take]; omega
theorem treeOrd_eq (l : List Rel) (ps : List Int) : treeOrd l ps = ordF l (downI (heldI ps)) (downI (heldI ps)).length := by unfold ordF; rw [List.take_length]; rfl
/-- relations, each with whose its lists are -/
@[simp] abbrev orel (q : Own × Own × Rel) : AV := .agg [.sl q.1 (ints' q.2.2.cols), .sl q.2.1 (rows' q.2.2.rows)]
instance : Sized orel 2 := ⟨fun _ => rfl⟩
theorem Frz.orels {H : List HO} {own : Own} : ∀ {Q : List (Own × Own × Rel)} {R : List Rel}, Q.map (fun q => q.2.2) = R → Frz H (.sl own (avs orel Q)) (.sl .no (rels' R)) := by
  intro Q R hQ
  subst hQ
  refine .sl ?_ (by simp) fun n hn y hy => ?_
  · induction Q with
    | nil => exact .nil
    | cons q Q ih => exact .cons (Frz.slN (f := AV.int .i64)) (.cons (Frz.slN (f := fun r => AV.sl .no (vals' r))) ih)
  · obtain ⟨a, ha, rfl⟩ := mem_avs.1 hy
    obtain ⟨q, hq, rfl⟩ := List.mem_map.1 ha
    have := hn (orel q) (mem_avs.2 ⟨q, hq, rfl⟩)
    rw [← this]
    rfl
def OrdQ (l : List Rel) (Z : List Int) (i : Nat) (H : List HO) (x : AV) : Prop := ∃ Q : List (Own × Own × Rel), Q.map (fun q => q.2.2) = ordF l Z i ∧ ((x = .sl .nil [] ∧ Q = []) ∨ ∃ t, x = .sl (.tok t) (avs orel Q) ∧ H[t]? = some (.spare Q.length 2))
theorem T_rdOrder (l : List Rel) (ps : List Int) (hl : l.length ≤ 1000) (hp : ps.length < 60) : T Tryz.prog 72 [.sl .no (rels' l), .sl .no (ints' ps)] (.sl .no (rels' (treeOrd l ps))) := by
  have kd := T_down ps hp
  rw [treeOrd_eq]
  have hin : ∀ k (h : k < (downI (heldI ps)).length), ∃ m : Nat, (downI (heldI ps))[k] = m ∧ m < ps.length := fun k h => (down_in (List.getElem_mem h)).2
  have hZn : (downI (heldI ps)).length < 60 := by
    have h1 := heldI_len ps
    rw [downI_len]
    omega
  generalize downI (heldI ps) = Z at *
  refine T.introF (TS.body mix Tryz.func72 (by kernel_rfl) rfl (by kernel_rfl) (by simp) ?_)
  simp
  refine TS.callW kd (Dws.self (by simp)) ?_
  simp
  refine vc_loop (fun i : Nat => Z.length - i) (fun i e H => e 0 = .sl .no (rels' l) ∧ e 10 = .sl .no (ints' Z) ∧ e 11 = .int .i64 Z.length ∧ e 12 = .int .i64 i ∧ i ≤ Z.length ∧ OrdQ l Z i H (e 5)) 0 ?_ ?_
  · simp
    exact ⟨[], rfl, .inl ⟨rfl, rfl⟩⟩
  rintro i e H ⟨e0, e10, e11, e12, hi, Q, hQ, hg⟩
  by_cases hlt : i < Z.length
  · have ew := wrap_next hlt (by omega)
    obtain ⟨m, hm1, hm2⟩ := hin i hlt
    have hnx := ordF_next (l := l) hlt hm1
    have hml : Q.length = i := by
      have := congrArg List.length hQ
      rwa [List.length_map, ordF_len hi] at this
    obtain ⟨z, hz⟩ : ∃ z, z = l.getD m zR := ⟨_, rfl⟩
    rw [← hz, ← hQ] at hnx
    by_cases hml2 : m < l.length
    · have hzz : l[m] = z := by rw [hz, getD_ltR hml2]
      rcases hg with ⟨gx, ge⟩ | ⟨t, gx, ht⟩
      · simp [e0, e10, e11, e12, hlt, hm1, hml2, hzz, gx]
        refine ⟨i + 1, by omega, ew, by omega, [(.no, .no, z)], ?_, .inr ⟨H.length + 1, rfl, by simp⟩⟩
        rw [hnx, ge]; rfl
      · have htl := (List.getElem?_eq_some_iff.1 ht).1
        have ht2 : ∀ Y : List HO, (H ++ Y)[t]? = some (.spare Q.length 2) := fun Y => by rw [List.getElem?_append_left htl]; exact ht
        simp [e0, e10, e11, e12, hlt, hm1, hml2, hzz, gx, ht2]
        refine ⟨by omega, i + 1, by omega, ew, by omega, Q ++ [(.no, .no, z)], ?_, .inr ⟨t, by simp [avs], by rw [List.getElem?_set_self (by simp; omega)]; simp⟩⟩
        rw [hnx, List.map_append]; rfl
    · have hzz : zR = z := by rw [hz, List.getD_eq_getElem?_getD, List.getElem?_eq_none (by omega)]; rfl
      rcases hg with ⟨gx, ge⟩ | ⟨t, gx, ht⟩
      · simp [e0, e10, e11, e12, hlt, hm1, hml2, gx]
        refine ⟨i + 1, by omega, ew, by omega, [(.exact, .exact, z)], ?_, .inr ⟨H.length + 1, by rw [← hzz]; rfl, by simp⟩⟩
        rw [hnx, ge]; rfl
      · have htl := (List.getElem?_eq_some_iff.1 ht).1
        have ht2 : ∀ Y : List HO, (H ++ Y)[t]? = some (.spare Q.length 2) := fun Y => by rw [List.getElem?_append_left htl]; exact ht
        simp [e0, e10, e11, e12, hlt, hm1, hml2, gx, ht2]
        refine ⟨by omega, i + 1, by omega, ew, by omega, Q ++ [(.exact, .exact, z)], ?_, .inr ⟨t, by rw [← hzz]; simp [avs, zR], by rw [List.getElem?_set_self (by simp; omega)]; simp⟩⟩
        rw [hnx, List.map_append]; rfl
  · have : i = Z.length := by omega
    subst this
    have hown : ∃ own, e 5 = .sl own (avs orel Q) := by
      rcases hg with ⟨gx, ge⟩ | ⟨t, gx, ht⟩
      · rw [ge]; exact ⟨_, gx⟩
      · exact ⟨_, gx⟩
    obtain ⟨own, gx⟩ := hown
    simp [e0, e10, e11, e12, gx]
    exact Frz.orels hQ
theorem T_rOrder25 (l : List Rel) (ps : List Int) (hl : l.length ≤ 1000) (hp : ps.length < 60) : T Tryz.prog 40 [.sl .no (rels' l), .sl .no (ints' ps)] (.sl .no (rels' (treeOrd l ps))) := by
  have kd := T_rdown ps (by omega)
  rw [treeOrd_eq]
  have hin : ∀ k (h : k < (downI (heldI ps)).length), ∃ m : Nat, (downI (heldI ps))[k] = m ∧ m < ps.length := fun k h => (down_in (List.getElem_mem h)).2
  have hZn : (downI (heldI ps)).length < 60 := by
    have h1 := heldI_len ps
    rw [downI_len]
    omega
  generalize downI (heldI ps) = Z at *
  refine T.introF (TS.body mix Tryz.func40 (by kernel_rfl) rfl (by kernel_rfl) (by simp) ?_)
  simp
  refine TS.callW kd (Dws.self (by simp)) ?_
  simp
  refine vc_loop (fun i : Nat => Z.length - i) (fun i e H => e 0 = .sl .no (rels' l) ∧ e 5 = .sl .no (ints' Z) ∧ e 7 = .int .i64 i ∧ i ≤ Z.length ∧ OrdQ l Z i H (e 6)) 0 ?_ ?_
  · simp
    exact ⟨[], rfl, .inl ⟨rfl, rfl⟩⟩
  rintro i e H ⟨e0, e5, e7, hi, Q, hQ, hg⟩
  by_cases hlt : i < Z.length
  · have ew := wrap_next hlt (by omega)
    obtain ⟨m, hm1, hm2⟩ := hin i hlt
    have hnx := ordF_next (l := l) hlt hm1
    have hml : Q.length = i := by
      have := congrArg List.length hQ
      rwa [List.length_map, ordF_len hi] at this
    obtain ⟨z, hz⟩ : ∃ z, z = l.getD m zR := ⟨_, rfl⟩
    rw [← hz, ← hQ] at hnx
    by_cases hml2 : m < l.length
    · have hzz : l[m] = z := by rw [hz, getD_ltR hml2]
      rcases hg with ⟨gx, ge⟩ | ⟨t, gx, ht⟩
      · simp [e0, e5, e7, hlt, hm1, hml2, hzz, gx]
        refine ⟨i + 1, by omega, ew, by omega, [(.no, .no, z)], ?_, .inr ⟨H.length + 1, rfl, by simp⟩⟩
        rw [hnx, ge]; rfl
      · have htl := (List.getElem?_eq_some_iff.1 ht).1
        have ht2 : ∀ Y : List HO, (H ++ Y)[t]? = some (.spare Q.length 2) := fun Y => by rw [List.getElem?_append_left htl]; exact ht
        simp [e0, e5, e7, hlt, hm1, hml2, hzz, gx, ht2]
        refine ⟨by omega, i + 1, by omega, ew, by omega, Q ++ [(.no, .no, z)], ?_, .inr ⟨t, by simp [avs], by rw [List.getElem?_set_self (by simp; omega)]; simp⟩⟩
        rw [hnx, List.map_append]; rfl
    · have hzz : zR = z := by rw [hz, List.getD_eq_getElem?_getD, List.getElem?_eq_none (by omega)]; rfl
      rcases hg with ⟨gx, ge⟩ | ⟨t, gx, ht⟩
      · simp [e0, e5, e7, hlt, hm1, hml2, gx]
        refine ⟨i + 1, by omega, ew, by omega, [(.exact, .exact, z)], ?_, .inr ⟨H.length + 1, by rw [← hzz]; rfl, by simp⟩⟩
        rw [hnx, ge]; rfl
      · have htl := (List.getElem?_eq_some_iff.1 ht).1
        have ht2 : ∀ Y : List HO, (H ++ Y)[t]? = some (.spare Q.length 2) := fun Y => by rw [List.getElem?_append_left htl]; exact ht
        simp [e0, e5, e7, hlt, hm1, hml2, gx, ht2]
        refine ⟨by omega, i + 1, by omega, ew, by omega, Q ++ [(.exact, .exact, z)], ?_, .inr ⟨t, by rw [← hzz]; simp [avs, zR], by rw [List.getElem?_set_self (by simp; omega)]; simp⟩⟩
        rw [hnx, List.map_append]; rfl
  · have : i = Z.length := by omega
    subst this
    have hown : ∃ own, e 6 = .sl own (avs orel Q) := by
      rcases hg with ⟨gx, ge⟩ | ⟨t, gx, ht⟩
      · rw [ge]; exact ⟨_, gx⟩
      · exact ⟨_, gx⟩
    obtain ⟨own, gx⟩ := hown
    simp [e0, e5, e7, gx]
    exact Frz.orels hQ
theorem T_rRight25 (l : List Rel) (h : OkL l) : T Tryz.prog 35 [.sl .no (rels' l)] (.bool (l.all rightR)) := by
  have hlen := h.len
  refine T.intro (TS.body mix Tryz.func35 (by kernel_rfl) rfl (by kernel_rfl) (by simp) ?_)
  simp
  refine vc_loop (fun i : Nat => l.length - i) (fun i e H => e 0 = .sl .no (rels' l) ∧ e 3 = .int .i64 i ∧ i ≤ l.length ∧ (l.take i).all rightR = true) 0 ?_ ?_
  · simp
  rintro i e H ⟨e0, e3, hi, ha⟩
  by_cases hlt : i < l.length
  · have ew := wrap_next hlt (by omega)
    have k := T_rright24 l[i] (h.ok _ (List.getElem_mem hlt))
    simp [e0, e3, hlt]
    refine TS.callW k (Dws.self (by simp)) ?_
    cases hr : rightR l[i] with
    | false =>
      have : l.all rightR = false := by
        rw [List.all_eq_false]
        exact ⟨_, List.getElem_mem hlt, by rw [hr]; simp⟩
      simp [this]
    | true =>
      simp [e0, e3]
      refine ⟨i + 1, by omega, ew, by omega, ?_⟩
      have hnx : (l.take (i + 1)).all rightR = true := by rw [take_next hlt, List.all_append, ha, List.all_cons, hr]; rfl
      simpa using hnx
  · have : i = l.length := by omega
    subst this
    rw [List.take_length] at ha
    simp [e0, e3, ha]
/-- how many rows the first ones have, together -/
def sizesR (L : List Rel) (k : Nat) : List Int := (List.range k).map fun i => ((allH L (i + 1)).rows.length : Int)
theorem sizesR_next (L : List Rel) (k : Nat) : sizesR L (k + 1) = sizesR L k ++ [((allH L (k + 1)).rows.length : Int)] := by unfold sizesR; rw [List.range_succ, List.map_append]; rfl
theorem sizesR_len (L : List Rel) (k : Nat) : (sizesR L k).length = k := by simp [sizesR]
def SzJ (L : List Rel) (i : Nat) (H : List HO) (x : AV) : Prop := ∃ z J, H = .box z :: J ∧ ((i = 0 ∧ z = [.sl .exact [], .sl .exact []]) ∨ (0 < i ∧ z = (allH L i).cs)) ∧ ((x = .sl .nil [] ∧ i = 0) ∨ 0 < i ∧ ∃ t, x = .sl (.tok (t + 1)) (ints' (sizesR L i)) ∧ J[t]? = some (.spare i 1))
theorem T_rdSizes (l : List Rel) (ps : List Int) (h : OkL l) (hp : ps.length ≤ 40) : T Tryz.prog 38 [.sl .no (rels' l), .sl .no (ints' ps)] (.sl .no (ints' (sizesR (treeOrd l ps) (treeOrd l ps).length))) := by
  have hlen := h.len
  have k1 := T_rdOrder l ps (by omega) (by omega)
  have hL := h.order hp
  generalize treeOrd l ps = L at *
  have hLl := hL.len
  refine T.introF (TS.body mix Tryz.func38 (by kernel_rfl) rfl (by kernel_rfl) (by simp) ?_)
  simp
  refine TS.callW k1 (Dws.self (by simp)) ?_
  simp
  refine vc_loop (fun i : Nat => L.length - i) (fun i e H => e 6 = .ptr 0 0 ∧ e 11 = .sl .no (rels' L) ∧ e 12 = .int .i64 L.length ∧ e 13 = .int .i64 i ∧ i ≤ L.length ∧ SzJ L i H (e 5)) 0 ?_ ?_
  · simp
    exact ⟨_, _, rfl, .inl ⟨rfl, rfl⟩, .inl ⟨rfl, rfl⟩⟩
  rintro i e H ⟨e6, e11, e12, e13, hi, z, J, rfl, hz, hg⟩
  by_cases hlt : i < L.length
  · have ew := wrap_next hlt (by omega)
    obtain ⟨s1, s2, s3, s4⟩ := hL.stepH hlt
    have hnx := sizesR_next L i
    have hok := (hL.take (i + 1)).held.all
    have hnr : (allH L (i + 1)).rows.length ≤ 100000 := hok.nr
    simp [e6, e11, e12, e13, hlt]
    rcases hz with ⟨h0, rfl⟩ | ⟨h0, rfl⟩
    · subst h0
      have k2 := T_sall (L.take 1) (hL.take 1)
      have e1 : L.take 1 = [L[0]] := by
        have := take_next hlt
        simpa using this
      have ea : allJ ((L.take 1).map heldR) = allH L 1 := rfl
      rw [ea, e1] at k2
      rcases hg with ⟨gx, _⟩ | ⟨hc, _⟩
      · simp [e6, e11, e12, e13, hlt, gx]
        refine TS.callW k2 (.cons (.sl (Dws.self (by simp))) .nil) ?_
        simp [e6, e11, e12, e13, hlt, gx]
        exact ⟨1, by omega, rfl, by omega, _, _, rfl, .inr ⟨by omega, rfl⟩, .inr ⟨by omega, J.length + 1, rfl, by simp⟩⟩
      · omega
    · have h0' : ¬ i = 0 := by omega
      have k3 := T_sjoin _ _ s1 s2 s3
      rw [s4] at k3
      rcases hg with ⟨gx, hc⟩ | ⟨_, t, gx, ht⟩
      · exact absurd hc h0'
      have htl := (List.getElem?_eq_some_iff.1 ht).1
      have ht2 : ∀ Y : List HO, (J ++ Y)[t]? = some (.spare i 1) := fun Y => by rw [List.getElem?_append_left htl]; exact ht
      have hsl := sizesR_len L i
      simp [e6, e11, e12, e13, hlt, gx, h0']
      refine TS.callW k3 (Dws.self (by simp)) ?_
      simp [e6, e11, e12, e13, hlt, gx, ht2, hsl]
      exact ⟨⟨by omega, by omega⟩, i + 1, by omega, ew, by omega, _, _, rfl, .inr ⟨by omega, rfl⟩, .inr ⟨by omega, t, by rw [hnx], by rw [List.getElem?_set_self (by simp; omega)]⟩⟩
  · have : i = L.length := by omega
    subst this
    have hown : ∃ own, e 5 = .sl own (ints' (sizesR L L.length)) := by
      rcases hg with ⟨gx, h0⟩ | ⟨_, t, gx, ht⟩
      · rw [h0]; exact ⟨_, gx⟩
      · exact ⟨_, gx⟩
    obtain ⟨own, gx⟩ := hown
    simp [e6, e11, e12, e13, gx]
    exact Frz.slN (f := AV.int .i64)
end Go.Proofs.YtjplcdeaedflpaaGreatDoor.PL
namespace Go.Proofs.YtjplcdeaedflpaaGreatDoor.PL
open Go.Proofs Go.RowKit
set_option linter.unusedVariables false
set_option linter.unusedSimpArgs false
theorem live25 {H : List HO} {K : AV → List HO → Prop} (h : K (.bool true) H) : TS Tryz.prog 24 [] H K := TS.callW T_live25 .nil h
theorem all_right {l : List Rel} : l.all rightR = true ↔ AllRight l := by rw [List.all_eq_true]; rfl
end Go.Proofs.YtjplcdeaedflpaaGreatDoor.PL
namespace Go.Proofs.YtjplcdeaedflpaaGreatDoor.PL
open Go.Proofs Go.RowKit
set_option linter.unusedVariables false
set_option linter.unusedSimpArgs false
theorem half_in {cs : List AV} (h : Sh Tryz.prog 80 cs) : ∃ p : Int × Int, mkAV true cs = halfA p ∧ True := by
  obtain ⟨hl, hf⟩ := h.struct_of ft_80
  obtain ⟨x, y, rfl⟩ : ∃ x y, cs = [x, y] := by
    match cs, hl with
    | [x, y], _ => exact ⟨x, y, rfl⟩
  obtain ⟨k, h1, w1⟩ := (hf (3, 0, 1) (by simp)).int_of un_3
  obtain ⟨i, h2, w2⟩ := (hf (3, 1, 1) (by simp)).int_of un_3
  simp at h1 h2
  subst h1; subst h2
  exact ⟨(k, i), rfl, trivial⟩
theorem halves_in {cs : List AV} (h : Sh Tryz.prog 34 cs) : ∃ l : List (Int × Int), cs = [.sl .no (halves' l)] ∧ l.length < 4611686018427387904 := by
  obtain ⟨ys, rfl, hy, b⟩ := h.sl_of un_34 ag_80
  obtain ⟨l, e, el, hl⟩ := list_in (f := halfA) (g := mkAV true) (Q := fun _ => True) (fun y hy' => half_in (hy y hy'))
  have hb : 1 ≤ Tryz.prog.bytesOf 80 := by decide +kernel
  have hr := reach_lt
  have := Nat.mul_le_mul_left ys.length hb
  exact ⟨l, by rw [e]; rfl, by omega⟩
end Go.Proofs.YtjplcdeaedflpaaGreatDoor.PL
namespace Go.Proofs.YtjplcdeaedflpaaGreatDoor.PL
open Go.Proofs Go.RowKit
set_option linter.unusedVariables false
set_option linter.unusedSimpArgs false
/-! ### a row that is not written any more -/
inductive Fzr (i n sz : Nat) (ys : List AV) : List AV → List AV → Prop
  | nil : Fzr i n sz ys [] []
  | same {x : AV} {xs zs : List AV} (t : Fzr i n sz ys xs zs) : Fzr i n sz ys (x :: xs) (x :: zs)
  | row {xs zs : List AV} (t : Fzr i n sz ys xs zs) : Fzr i n sz ys (.mv i n sz 0 n :: xs) (.sl .no ys :: zs)
theorem Fzr.vrs {i n sz : Nat} {ys : List AV} {Γ Δ : Gh} (le : Gh.Le Γ Δ) (hr : ∀ v, VR Γ (.mv i n sz 0 n) v → VR Δ (.sl .no ys) v) {xs zs : List AV} (h : Fzr i n sz ys xs zs) : ∀ {vs : List Value}, VRs Γ xs vs → VRs Δ zs vs := by
  induction h with
  | nil => intro vs r; cases r; exact .nil
  | same t ih => intro vs r; cases r with | cons r rs => exact .cons (r.mono le) (ih rs)
  | row t ih => intro vs r; cases r with | cons r rs => exact .cons (hr _ r) (ih rs)
/-- A call that is handed a row which nobody writes any more: it is told as what stays. -/
theorem TS.freezeR {P : Program} {f : FuncId} {i n sz : Nat} {cs ys args args' : List AV} {H : List HO} {K : AV → List HO → Prop} (hi : H[i]? = some (.row n sz cs)) (hF : FrzC [] cs (ys.flatMap AV.cells)) (hl : ys.length = n) (hs : ∀ y, y ∈ ys → y.cells.length = sz) (ha : Fzr i n sz ys args args') (h : TS P f args' (H.set i .gone) K) : TS P f args H K := by
  intro w0 Γ w vs hR hv
  have hRR := hR
  obtain ⟨hglo, hbel, himm, ⟨bs, hobj, hdis⟩, hfr, hold, hrv⟩ := hR
  obtain ⟨hb0, ⟨cap, cur, e, hT, hw, hsz, _, hnc, hvs⟩, hones, hnone⟩ := hobj i _ hi rfl
  have hil := (List.getElem?_eq_some_iff.1 hi).1
  obtain ⟨Δ, hΔ⟩ : ∃ Δ : Gh, Δ = ⟨fun b o => if b = bs i then w.cell? ⟨b, o, none⟩ else Γ.I b o, Γ.B, Γ.T⟩ := ⟨_, rfl⟩
  have hcell : ∀ o, w.cell? ⟨bs i, o, none⟩ = cur[o]? := fun o => cell_in hw o
  have le : Gh.Le Γ Δ := by
    subst hΔ
    refine ⟨fun b o v hI => ?_, fun _ _ h => h, fun _ _ _ h => h⟩
    dsimp only
    split
    · exact himm _ _ _ hI
    · exact hI
  have hle : ∀ b o v, Γ.I b o = some v → Δ.I b o = some v := le.1
  have hcs : VRs Δ (ys.flatMap AV.cells) (cur.toList.take (n * sz)) :=
    (FrzC.vrsJ hRR (Hm := []) (fun i h hi => by simp at hi) hle (fun i cs b hi => by simp at hi) (fun i n sz cs b cap hi => by simp at hi) hF hvs).mono (Γ := PI Δ.I) (Δ := Δ) ⟨fun _ _ _ h => h, fun _ _ h => (by cases h), fun _ _ _ h => (by cases h)⟩
  have hr : ∀ v, VR Γ (.mv i n sz 0 n) v → VR Δ (.sl .no ys) v := by
    intro v r
    cases r with
    | @mv _ _ _ _ _ b cap' o hT' hlt hnc' ho =>
      rw [hT] at hT'
      simp only [Option.some.injEq, Prod.mk.injEq] at hT'
      obtain ⟨rfl, rfl⟩ := hT'
      rcases Nat.eq_zero_or_pos n with h0 | hpos
      · have : ys = [] := List.eq_nil_of_length_eq_zero (by omega)
        rw [this]
        subst h0
        exact .sl0 trivial
      · have ho := ho (by omega)
        subst ho
        refine .sl (sz := sz) hl.symm hs (hF.ones hones) hcs ?_ trivial (by omega)
        intro j v hv'
        rw [List.getElem?_take] at hv'
        split at hv'
        · subst hΔ
          show (if bs i = bs i then w.cell? ⟨bs i, _, none⟩ else _) = _
          rw [if_pos rfl, hcell]
          simpa using hv'
        · cases hv'
  have hget : ∀ (j : Nat) (k : HO), (H.set i .gone)[j]? = some k → k ≠ .gone → j ≠ i ∧ H[j]? = some k := by
    intro j k hj hk
    by_cases e : j = i
    · subst e
      rw [List.getElem?_set_self hil] at hj
      cases hj
      exact absurd rfl hk
    · rw [List.getElem?_set_ne (Ne.symm e)] at hj
      exact ⟨e, hj⟩
  have hR' : R w0 Δ (H.set i .gone) w := by
    refine ⟨hglo, hbel, ?_, ⟨bs, ?_, ?_⟩, ?_, ?_, ?_⟩
    · intro b o v hI
      subst hΔ
      dsimp only at hI
      split at hI
      · exact hI
      · exact himm _ _ _ hI
    · intro j k hj hl
      obtain ⟨hne, hj⟩ := hget j k hj (by rintro rfl; cases hl)
      obtain ⟨g1, g2⟩ := hobj j k hj hl
      refine ⟨g1, g2.kept le rfl (fun o ho => ?_) (fun m hm => by subst hΔ; exact hm)⟩
      subst hΔ
      show (if bs j = bs i then _ else _) = none
      rw [if_neg (hdis j i k _ hj hi hl rfl hne)]
      exact ho
    · intro j j' k k' hj hj' hl hl' hne
      obtain ⟨_, hj⟩ := hget j k hj (by rintro rfl; cases hl)
      obtain ⟨_, hj'⟩ := hget j' k' hj' (by rintro rfl; cases hl')
      exact hdis j j' k k' hj hj' hl hl' hne
    · intro j hj
      rw [List.length_set] at hj
      have := hfr j hj
      subst hΔ
      exact this
    · intro b o v hb hI
      subst hΔ
      dsimp only at hI
      split at hI
      · rename_i e; omega
      · exact hold b o v hb hI
    · intro j hj
      obtain ⟨_, hj⟩ := hget j _ hj (by simp)
      have := hrv j hj
      subst hΔ
      exact this
  refine (h w0 Δ w vs hR' (ha.vrs le hr hv)).mono ?_
  rintro e' w' ⟨Γ', v, r, H', g1, g2, g3, g4, g5⟩
  exact ⟨Γ', v, r, H', g1, le.trans g2, g3, g4, g5⟩
def oneR (l : List Rel) (i : Nat) (x : List Val) : List Rel := l.set i ⟨(l.getD i zR).cols, [x]⟩
def partG (l : List Rel) (i : Nat) (x : List Val) : Bool := decide (0 < (allJ ((oneR l i x).map heldR)).rows.length)
def fullG (l : List Rel) (i : Nat) : Rel := ⟨(l.getD i zR).cols, (l.getD i zR).rows.filter (partG l i)⟩
theorem oneR_ok {l : List Rel} (h : OkL l) {i : Nat} {x : List Val} (hx : x ∈ (l.getD i zR).rows) : OkL (oneR l i x) := by
  have hg := h.okP.getD i
  have h1 : OkR ⟨(l.getD i zR).cols, [x]⟩ := ⟨hg.1.nc, by simp, fun y hy => by
    rw [List.mem_singleton] at hy
    rw [hy]
    exact hg.1.row x hx⟩
  refine ⟨fun r hr => ?_, fun r hr => ?_, by unfold oneR; simpa using h.len, Nat.le_trans (prodR_set l i _ ?_) h.pr⟩
  · rcases List.mem_or_eq_of_mem_set hr with hr | rfl
    · exact h.ok r hr
    · exact h1
  · rcases List.mem_or_eq_of_mem_set hr with hr | rfl
    · exact h.nc r hr
    · exact hg.2
  · exact List.length_pos_of_mem hx
theorem oneR_right {l : List Rel} (h : AllRight l) {i : Nat} {x : List Val} (hx : x ∈ (l.getD i zR).rows) : AllRight (oneR l i x) := by
  have hi : rightR (l.getD i zR) = true := by
    rcases Nat.lt_or_ge i l.length with hi | hi
    · rw [getD_ltR hi]; exact h _ (List.getElem_mem hi)
    · rw [List.getD_eq_getElem?_getD, List.getElem?_eq_none hi] at hx
      simp [zR] at hx
  refine h.set (rightR_of (r := ⟨(l.getD i zR).cols, [x]⟩) (by have := rightR_rises hi; exact this) fun y hy => ?_)
  have : y = x := by simpa using hy
  rw [this]
  exact rightR_row hi hx
theorem partG_right {l : List Rel} (h : AllRight l) {i : Nat} {x : List Val} (hx : x ∈ (l.getD i zR).rows) : partG l i x = partB l i x := by
  unfold partG partB
  rw [(oneR_right h hx).map]
  rfl
theorem fullG_right {l : List Rel} (h : AllRight l) (i : Nat) : fullG l i = fullJ l i := by
  unfold fullG fullJ
  congr 1
  exact List.filter_congr fun x hx => partG_right h hx
theorem FrzC.orels {H : List HO} : ∀ (Q : List (Own × Own × Rel)), FrzC H ((avs orel Q).flatMap AV.cells) ((rels' (Q.map fun q => q.2.2)).flatMap AV.cells)
  | [] => .nil
  | q :: Q => .cons (Frz.slN (f := AV.int .i64)) (.cons (Frz.slN (f := fun r => AV.sl .no (vals' r))) (FrzC.orels Q))
theorem fullG_ok {l : List Rel} (h : OkL l) (i : Nat) : OkR (fullG l i) := by
  have hg := (h.okP.getD i).1
  exact ⟨hg.nc, Nat.le_trans (List.length_filter_le ..) hg.nr, fun x hx => hg.row x (List.mem_filter.1 hx).1⟩
theorem orel_no (l : List Rel) : avs orel (l.map fun r => (Own.no, Own.no, r)) = rels' l := by
  unfold avs
  rw [List.map_map]
  rfl
def FJ (r : Rel) (q : List Val → Bool) (k : Nat) (H : List HO) : Prop := ∃ c1 x L, c1.length = 2 ∧ H = .box c1 :: .box [.sl .no (ints' r.cols), x] :: L ∧ GrowX 2 1 L x (rows' ((r.rows.take k).filter q))
theorem T_rFull25 (l : List Rel) (i : Nat) (h : OkL l) (hi : i < l.length) (hr : rightR l[i] = true) : T Tryz.prog 39 [.sl .no (rels' l), .int .i64 i] (fullG l i).av := by
  have hlen := h.len
  have hri := h.ok _ (List.getElem_mem hi)
  have hnr := hri.nr
  have k1 := T_rright24 l[i] hri
  rw [hr] at k1
  have hall := fun x hx => T_rall24 (oneR l i x) (oneR_ok h (i := i) (x := x) hx)
  unfold fullG
  rw [getD_ltR hi] at *
  obtain ⟨q, hq⟩ : ∃ q, q = partG l i := ⟨_, rfl⟩
  rw [← hq]
  have hneg : ¬ (i : Int) < 0 := by omega
  have hge : ¬ (l.length : Int) ≤ i := by omega
  have hge2 : ¬ l.length ≤ i := by omega
  obtain ⟨r, hrr⟩ : ∃ r, r = l[i] := ⟨_, rfl⟩
  rw [← hrr] at hnr hri k1 hall ⊢
  refine T.introF (TS.bodyM [43] mix Tryz.func39 (by kernel_rfl) rfl (by kernel_rfl) (by simp) ?_)
  simp [hneg, hge, hge2, hi, ← hrr]
  refine GTK.callW (fun _ => ⟨k1, Dws.self (by simp)⟩) ?_
  simp [hneg, hge, hge2, hi, ← hrr]
  refine vc_loop (fun k : Nat => r.rows.length - k) (fun k e H => e 0 = .sl .no (rels' l) ∧ e 1 = .int .i64 i ∧ e 4 = .ptr 0 0 ∧ e 5 = .ptr 1 0 ∧ e 6 = .int .i64 k ∧ k ≤ r.rows.length ∧ FJ r q k H) 0 ?_ ?_
  · simp
    exact ⟨_, _, _, rfl, rfl, .inl ⟨by simp, .inr rfl⟩⟩
  rintro k e H ⟨e0, e1, e4, e5, e6, hk, c1, x, L, hc1, rfl, hg⟩
  by_cases hlt : k < r.rows.length
  · have ew := wrap_next hlt (by omega)
    have hxm := List.getElem_mem hlt
    have hnx := filter_nextR (q := q) hlt
    have hfl : ((r.rows.take k).filter q).length ≤ k := Nat.le_trans (List.length_filter_le ..) (by simp; omega)
    obtain ⟨y, hy⟩ : ∃ y, y = r.rows[k] := ⟨_, rfl⟩
    rw [← hy] at hxm hnx
    have ka := hall y hxm
    have hqy : q y = decide (0 < (allJ ((oneR l i y).map heldR)).rows.length) := by rw [hq]; rfl
    have hao := (oneR_ok h (i := i) (x := y) (by rw [getD_ltR hi, ← hrr]; exact hxm)).held.all
    obtain ⟨A, hA⟩ : ∃ A, A = allJ ((oneR l i y).map heldR) := ⟨_, rfl⟩
    rw [← hA] at ka hqy hao
    have hl0 : ¬ l = [] := fun e => by rw [e] at hi; cases hi
    have hml := flatA_len (f := Rel.av) (sz := 2) l
    have hml0 := hml
    rw [List.length_flatMap] at hml
    obtain ⟨Q, hQ⟩ : ∃ Q, Q = (l.map fun r => (Own.no, Own.no, r)).set i (Own.no, Own.exact, ⟨r.cols, [y]⟩) := ⟨_, rfl⟩
    have hQ2 : Q.map (fun q => q.2.2) = oneR l i y := by
      rw [hQ, List.map_set, List.map_map]
      unfold oneR
      rw [getD_ltR hi, ← hrr]
      congr 1
      exact List.map_id _
    have hQl : Q.length = l.length := by rw [hQ]; simp
    have hput : ((rels' l).flatMap AV.cells).take (i * 2) ++ .sl .no (ints' r.cols) :: .sl .exact [.sl .no (vals' y)] :: ((rels' l).flatMap AV.cells).drop (i * 2 + 2) = (avs orel Q).flatMap AV.cells := by
      have := flatA_put (f := orel) (sz := 2) (l.map fun r => (Own.no, Own.no, r)) (i := i) (by simpa using hi) (k := 0) (new := [.sl .no (ints' r.cols), .sl .exact [.sl .no (vals' y)]]) (a := (Own.no, Own.exact, ⟨r.cols, [y]⟩)) (by simp) (by simp)
      rw [orel_no, ← hQ] at this
      exact this
    have hfr : ∀ H : List HO, FrzC H ((((avs orel Q).flatMap AV.cells).drop (0 * 2)).take (l.length * 2)) ((rels' (oneR l i y)).flatMap AV.cells) := fun H => by
      rw [Nat.zero_mul, List.drop_zero, List.take_of_length_le (by rw [flatA_len (f := orel) (sz := 2), hQl]; exact Nat.le_refl _), ← hQ2]
      exact FrzC.orels Q
    simp [e0, e1, e4, e5, e6, hlt, hi, hl0, ← hrr, ← hy]
    refine ⟨⟨by omega, by omega⟩, by rw [hml]; omega, ?_⟩
    rw [hput]
    refine TS.freezeR (i := L.length + 1 + 1) (n := l.length) (sz := 2) (ys := rels' (oneR l i y)) (cs := (avs orel Q).flatMap AV.cells) (args' := [.sl .no (rels' (oneR l i y))]) (by simp) ?_ ?_ ?_ (.row .nil) ?_
    · rw [← hQ2]; exact FrzC.orels Q
    · simp [oneR]
    · intro z hz
      obtain ⟨a, _, rfl⟩ := mem_avs.1 hz
      rfl
    have hset : ((HO.box c1 :: HO.box [.sl Own.no (ints' r.cols), x] :: (L ++ [HO.row l.length 2 (List.flatMap AV.cells (avs orel Q))])).set (L.length + 1 + 1) .gone) = HO.box c1 :: HO.box [.sl Own.no (ints' r.cols), x] :: (L ++ [.gone]) := by simp
    rw [hset]
    refine TS.call' ka (by simp) ?_
    cases hc : q y with
    | true =>
      rw [hc] at hqy
      have hp : 0 < A.rows.length := by simpa using hqy.symm
      rw [hc, if_pos rfl] at hnx
      rcases hg with ⟨ge, zx⟩ | ⟨t, rfl, ht⟩
      · rw [avs_eq_nil] at ge
        have ex := GrowX.ex0 zx
        simp [e0, e1, e4, e5, e6, hlt, hi, hl0, ← hrr, ← hy, hp, ex]
        refine ⟨k + 1, by omega, ew, by omega, c1, _, _, hc1, rfl, ?_⟩
        rw [hnx]
        have := GrowX.first (f := rowA) (l := (r.rows.take k).filter q) (a := y) (q := 2) (sz := 1) (J := L ++ [HO.gone]) (k := L.length + 1 + 1 + 1) ge (by simp)
        rw [List.append_assoc] at this
        exact this
      · have htl := (List.getElem?_eq_some_iff.1 ht).1
        have hw : ∀ Y : List HO, (L ++ Y)[t]? = some (.spare ((r.rows.take k).filter q).length 1) := fun Y => by rw [List.getElem?_append_left htl]; simpa using ht
        simp [e0, e1, e4, e5, e6, hlt, hi, hl0, ← hrr, ← hy, hp, hw]
        refine ⟨by omega, k + 1, by omega, ew, by omega, c1, _, _, hc1, rfl, ?_⟩
        rw [hnx]
        exact GrowX.more (f := rowA) (l := (r.rows.take k).filter q) (a := y) (q := 2) (sz := 1) (J := L ++ [HO.gone]) (by rw [List.getElem?_append_left htl]; exact ht) rfl
    | false =>
      rw [hc] at hqy
      have hp : ¬ 0 < A.rows.length := by simpa using hqy.symm
      rw [hc, if_neg (by simp), List.append_nil] at hnx
      simp [e0, e1, e4, e5, e6, hlt, hi, hl0, ← hrr, ← hy, hp]
      refine ⟨k + 1, by omega, ew, by omega, c1, _, _, hc1, rfl, ?_⟩
      rw [hnx]
      exact hg.app
  · have : k = r.rows.length := by omega
    subst this
    rw [List.take_length] at hg
    obtain ⟨own, rfl⟩ := hg.own
    match c1, hc1 with
    | [u0, u1], _ =>
    simp [e0, e1, e4, e5, e6, hi, ← hrr]
    exact .agg (.cons (Frz.slN (f := AV.int .i64)) (.cons (Frz.slN (f := fun r => AV.sl .no (vals' r))) .nil))
theorem T_ReduceKeeps (l : List Rel) (prog : List (Int × Int)) (ps : List Int) (hl : l.length < 4611686018427387904) (hi : ∀ r, r ∈ l → RelIn r) (hp : prog.length < 4611686018427387904) (hps : ps.length < 4611686018427387904) :
    T Tryz.prog 8 [.sl .no (rels' l), .sl .no (halves' prog), .sl .no (ints' ps)] (.bool true) := by
  have kw := T_rwide24 l hl hi
  refine T.intro (TS.body mix Tryz.func8 (by kernel_rfl) rfl (by kernel_rfl) (by simp) ?_)
  simp
  refine TS.callW kw (Dws.self (by simp)) ?_
  cases hw : wideL l with
  | true =>
    simp
    refine GTK.callW (fun h => nomatch h) (ys := []) (r := .bool true) ?_
    simp
    refine live25 ?_
    simp
  | false =>
  obtain ⟨hok, hpr, hn⟩ := wideL_no hw hi
  have kr := T_rRight25 l hok
  simp
  refine GTK.callW (fun _ => ⟨kr, Dws.self (by simp)⟩) ?_
  cases hra : l.all rightR with
  | false =>
    simp
    refine live25 ?_
    simp
  | true =>
  have hr := all_right.1 hra
  by_cases h1 : 30 < prog.length
  · have h1' : (30 : Int) < prog.length := by omega
    simp [h1, h1']
    refine live25 ?_
    simp
  have h1' : ¬ (30 : Int) < prog.length := by omega
  by_cases h2 : 10 < ps.length
  · have h2' : (10 : Int) < ps.length := by omega
    simp [h1, h1', h2, h2']
    refine live25 ?_
    simp
  have h2' : ¬ (10 : Int) < ps.length := by omega
  have hpo := hok.play (prog := prog)
  have hpR := playJ_right prog hr
  have hpl := playJ_len prog l
  have k1 := T_rdPlay l prog hok.okP (by omega)
  have k2 := T_rall24 (playJ l prog) hpo
  rw [playJ_held, play_all prog (AllRight.held l)] at k2
  have k3 := T_rall24 l hok
  have k4 := T_rbag24 _ _ rfl (List.Perm.refl _) hok.held.all
  have k5 := T_rOrder25 l ps (by omega) (by omega)
  have k6 := T_rdSizes l ps hok (by omega)
  have hoo := hok.order (ps := ps) (by omega)
  simp [h1, h1', h2, h2']
  refine TS.callW k1 (Dws.self (by simp)) ?_
  simp
  refine TS.callW k2 (Dws.self (by simp)) ?_
  simp
  refine TS.callW k3 (Dws.self (by simp)) ?_
  simp
  refine TS.callW k4 (Dws.self (by simp)) ?_
  simp
  refine vc_loop (fun i : Nat => l.length - i) (fun i e H => e 0 = .sl .no (rels' l) ∧ e 2 = .sl .no (ints' ps) ∧ e 7 = .sl .no (rels' (playJ l prog)) ∧ e 8 = .int .i64 i ∧ i ≤ l.length) 0 ?_ ?_
  · simp
  rintro i e H ⟨e0, e2, e7, e8, hi⟩
  by_cases hlt : i < l.length
  · have ew := wrap_next hlt (by omega)
    have f1 := T_rFull25 (playJ l prog) i hpo (by omega) (hpR _ (List.getElem_mem _))
    have f2 := T_rFull25 l i hok hlt (hr _ (List.getElem_mem _))
    have hf : fullG (playJ l prog) i = fullG l i := by rw [fullG_right hpR, fullG_right hr, play_full prog hr hlt]
    rw [hf] at f1
    have ho := fullG_ok hok i
    have f3 := T_rsame24 (fullG l i) (by have := ho.nc; omega) (by have := ho.nr; omega) fun x hx => by have := (ho.row x hx).1; omega
    simp [e0, e2, e7, e8, hlt]
    refine TS.callW f1 (Dws.self (by simp)) ?_
    simp [e0, e2, e7, e8, hlt]
    refine TS.callW f2 (Dws.self (by simp)) ?_
    simp [e0, e2, e7, e8, hlt]
    refine TS.callW f3 (Dws.self (by simp)) ?_
    simp [e0, e2, e7, e8, hlt]
    exact ⟨i + 1, by omega, ew, by omega⟩
  have : i = l.length := by omega
  subst this
  simp [e0, e2, e7, e8]
  refine TS.callW k5 (Dws.self (by simp)) ?_
  generalize treeOrd l ps = L at *
  have hLl := hoo.len
  simp [e0, e2, e7, e8]
  refine vc_loop (fun i : Nat => L.length - i) (fun i e H => e 0 = .sl .no (rels' l) ∧ e 2 = .sl .no (ints' ps) ∧ e 9 = .sl .no (rels' L) ∧ e 11 = .int .i64 (i + 1 : Nat) ∧ i ≤ L.length ∧ Grow1 1 H (e 10) (ints' (sizesR L i))) 0 ?_ ?_
  · simp [e0, e2]
    exact .nil
  rintro i e' H' ⟨e0, e2, e9, e11, hi, hg⟩
  by_cases hlt : i < L.length
  · have ew := wrap_next (show i + 1 < L.length + 1 by omega) (by omega)
    have hnx := sizesR_next L i
    have hsl := sizesR_len L i
    have hok' := (hoo.take (i + 1)).held.all
    have hnr : (allH L (i + 1)).rows.length ≤ 100000 := hok'.nr
    have g1 := T_rall24 (L.take (i + 1)) (hoo.take (i + 1))
    have ea : allJ ((L.take (i + 1)).map heldR) = allH L (i + 1) := rfl
    rw [ea] at g1
    have hle : i + 1 ≤ L.length := by omega
    have hle' : (i : Int) + 1 ≤ L.length := by omega
    have hown : ∃ own, sliceOwn Own.no 0 ((i : Int) + 1) (L.length : Int) (some (.int .i64 ((i : Int) + 1))) none = own := ⟨_, rfl⟩
    obtain ⟨own, hown⟩ := hown
    simp [e0, e2, e9, e11, hle, hle', hlt, hown]
    refine ⟨by omega, ?_⟩
    refine TS.callW g1 (.cons (.sl (Dws.self (by simp))) .nil) ?_
    rcases hg with ⟨ge, gx⟩ | ⟨t, gx, ht⟩
    · rw [avs_eq_nil] at ge
      simp [e0, e2, e9, e11, hlt, gx]
      refine ⟨i + 1, by omega, by rw [wrap_i64 (by omega) (by omega)]; omega, by omega, ?_⟩
      rw [hnx]
      exact Grow1.first (f := AV.int .i64) ge rfl
    · have hw := ht
      simp only [avs_length] at hw
      simp [e0, e2, e9, e11, hlt, gx, hw, hsl]
      refine ⟨by omega, i + 1, by omega, by rw [wrap_i64 (by omega) (by omega)]; omega, by omega, ?_⟩
      rw [hnx]
      exact Grow1.more (f := AV.int .i64) ht (by omega)
  · have : i = L.length := by omega
    subst this
    obtain ⟨own, gx⟩ := hg.own
    have hno : ¬ ((L.length : Int) + 1 ≤ L.length) := by omega
    simp [e0, e2, e9, e11, gx, hno]
    refine TS.callW k6 (Dws.self (by simp)) ?_
    simp [gx]
    have hsl := sizesR_len L L.length
    have k7 := T_sameList21 (sizesR L L.length) (sizesR L L.length) (by omega)
    refine TS.callW k7 (.cons (.sl (Dws.self (by simp))) (.cons (.sl (Dws.self (by simp))) .nil)) ?_
    simp
    refine GTK.callW (fun _ => ⟨T_live25, .nil⟩) ?_
    simp
theorem S_ReduceKeeps {xs : List AV} (h : ShA Tryz.prog [31, 34, 22] xs) : T Tryz.prog 8 xs (.bool true) := by
  obtain ⟨y, r, rfl, h0, h⟩ := h.cons_of ag_31
  obtain ⟨y, r, rfl, h1, h⟩ := h.cons_of ag_34
  obtain ⟨y, r, rfl, h2, h⟩ := h.cons_of ag_22
  obtain rfl := h.nil_of
  obtain ⟨l, rfl, hi, hl⟩ := rels_in h0
  obtain ⟨prog, rfl, hp⟩ := halves_in h1
  obtain ⟨ps, rfl, hn⟩ := ints_in h2
  exact T_ReduceKeeps l prog ps hl hi hp hn.2
end Go.Proofs.YtjplcdeaedflpaaGreatDoor.PL
