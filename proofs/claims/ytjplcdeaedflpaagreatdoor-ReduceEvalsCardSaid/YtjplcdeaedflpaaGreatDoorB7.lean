/- Contracts of functions of the program, and plain laws (part 7): Relations in the order of a tree  all together along it; A tree's order, and what hangs along it; Relations along a tree: the statements of the same rows, and of sizes. -/
import Derived.Test.YtjplcdeaedflpaaGreatDoorB1
import Derived.Test.YtjplcdeaedflpaaGreatDoorB6
namespace Go.Proofs.YtjplcdeaedflpaaGreatDoor.PL
open Go.Proofs Go.RowKit
set_option linter.unusedVariables false
set_option linter.unusedSimpArgs false
theorem prodR_set : ∀ (l : List Rel) (i : Nat) (r : Rel), r.rows.length ≤ (l.getD i zR).rows.length → prodR (l.set i r) ≤ prodR l
  | [], i, r, _ => Nat.le_refl _
  | a :: l, 0, r, h => Nat.mul_le_mul_right _ (by have : r.rows.length ≤ a.rows.length := h; omega)
  | a :: l, i + 1, r, h => Nat.mul_le_mul_left _ (prodR_set l i r h)
theorem OkL.step' {l : List Rel} (h : OkL l) (p : Int × Int) : OkL (stepJ l p) := by
  have hp := h.okP.step p
  refine ⟨hp.ok, hp.nc, hp.len, Nat.le_trans ?_ h.pr⟩
  unfold stepJ
  split
  · refine prodR_set l _ _ ?_
    refine Nat.le_trans (List.length_filter_le ..) ?_
    exact held_rows _
  · exact Nat.le_refl _
theorem OkL.play {prog : List (Int × Int)} : ∀ {l : List Rel}, OkL l → OkL (playJ l prog) := by
  induction prog with
  | nil => intro l h; exact h
  | cons p prog ih => intro l h; exact ih (h.step' p)
theorem prodR_range : ∀ (l : List Rel) (n : Nat), prodR ((List.range n).map fun i => l.getD i zR) ≤ prodR l
  | l, 0 => prodR_pos l
  | [], n + 1 => by
    have : ∀ m, prodR ((List.range m).map fun i => ([] : List Rel).getD i zR) = 1 := fun m => by
      rw [show ((List.range m).map fun i => ([] : List Rel).getD i zR) = List.replicate m zR from by
        apply List.ext_getElem
        · simp
        · intro i h1 h2; simp]
      induction m with
      | zero => rfl
      | succ m ih => rw [List.replicate_succ]; show (0 + 1) * _ = 1; rw [ih]
    rw [this]
    exact Nat.le_refl _
  | a :: l, n + 1 => by
    rw [List.range_succ_eq_map, List.map_cons, List.map_map]
    exact Nat.mul_le_mul_left _ (prodR_range l n)
def treeOrd (l : List Rel) (ps : List Int) : List Rel := (downI (heldI ps)).map fun n => l.getD n.toNat zR
theorem treeOrd_len (l : List Rel) (ps : List Int) : (treeOrd l ps).length ≤ ps.length := by
  unfold treeOrd
  rw [List.length_map, downI_len]
  exact heldI_len ps
theorem treeOrd_perm (l : List Rel) (ps : List Int) : (treeOrd l ps).Perm ((List.range (heldI ps).length).map fun i => l.getD i zR) := by
  have h := (downI_of (heldI ps)).1.map fun n : Int => l.getD n.toNat zR
  unfold treeOrd
  refine h.trans ?_
  unfold upTo
  rw [List.map_map]
  exact List.Perm.of_eq (List.map_congr_left fun i _ => by show l.getD (i : Int).toNat zR = _; rw [Int.toNat_natCast])
theorem OkL.order {l : List Rel} (h : OkL l) {ps : List Int} (hp : ps.length ≤ 40) : OkL (treeOrd l ps) := by
  have hin : ∀ r, r ∈ treeOrd l ps → OkR r ∧ r.cols.length ≤ 20 := fun r hr => by
    obtain ⟨n, _, rfl⟩ := List.mem_map.1 hr
    exact h.okP.getD _
  refine ⟨fun r hr => (hin r hr).1, fun r hr => (hin r hr).2, Nat.le_trans (treeOrd_len l ps) hp, ?_⟩
  rw [prodR_perm (treeOrd_perm l ps)]
  exact Nat.le_trans (prodR_range l _) h.pr
def ordF (l : List Rel) (Z : List Int) (i : Nat) : List Rel := (Z.take i).map fun n => l.getD n.toNat zR
theorem ordF_next {l : List Rel} {Z : List Int} {i m : Nat} (h : i < Z.length) (hm : Z[i] = (m : Int)) : ordF l Z (i + 1) = ordF l Z i ++ [l.getD m zR] := by
  unfold ordF
  rw [take_next h, List.map_append, hm]
  rfl
theorem ordF_len {l : List Rel} {Z : List Int} {i : Nat} (h : i ≤ Z.length) : (ordF l Z i).length = i := by unfold ordF; rw [List.length_map, List.length_take]; omega
theorem treeOrd_eq (l : List Rel) (ps : List Int) : treeOrd l ps = ordF l (downI (heldI ps)) (downI (heldI ps)).length := by unfold ordF; rw [List.take_length]; rfl
/-- relations, each with whose its lists are -/
@[simp] abbrev orel (q : Own × Own × Rel) : AV := .agg [.sl q.1 (ints' q.2.2.cols), .sl q.2.1 (rows' q.2.2.rows)]
instance : Sized orel 2 := ⟨fun _ => rfl⟩
theorem Frz.orels {H : List HO} {own : Own} : ∀ {Q : List (Own × Own × Rel)} {R : List Rel}, Q.map (fun q => q.2.2) = R → Frz H (.sl own (avs orel Q)) (.sl .no (rels' R)) := by
  intro Q R hQ
  subst hQ
  refine .sl ?_ (by simp) fun n hn y hy => ?_
  · induction Q with
    | nil => exact .nil
    | cons q Q ih => exact .cons (Frz.slN (f := AV.int .i64)) (.cons (Frz.slN (f := fun r => AV.sl .no (vals' r))) ih)
  · obtain ⟨a, ha, rfl⟩ := mem_avs.1 hy
    obtain ⟨q, hq, rfl⟩ := List.mem_map.1 ha
    have := hn (orel q) (mem_avs.2 ⟨q, hq, rfl⟩)
    rw [← this]
    rfl
def OrdQ (l : List Rel) (Z : List Int) (i : Nat) (H : List HO) (x : AV) : Prop := ∃ Q : List (Own × Own × Rel), Q.map (fun q => q.2.2) = ordF l Z i ∧ ((x = .sl .nil [] ∧ Q = []) ∨ ∃ t, x = .sl (.tok t) (avs orel Q) ∧ H[t]? = some (.spare Q.length 2))
theorem T_rdOrder (l : List Rel) (ps : List Int) (hl : l.length ≤ 1000) (hp : ps.length < 60) : T Tryz.prog 72 [.sl .no (rels' l), .sl .no (ints' ps)] (.sl .no (rels' (treeOrd l ps))) := by
  have kd := T_down ps hp
  rw [treeOrd_eq]
  have hin : ∀ k (h : k < (downI (heldI ps)).length), ∃ m : Nat, (downI (heldI ps))[k] = m ∧ m < ps.length := fun k h => (down_in (List.getElem_mem h)).2
  have hZn : (downI (heldI ps)).length < 60 := by
    have h1 := heldI_len ps
    rw [downI_len]
    omega
  generalize downI (heldI ps) = Z at *
  refine T.introF (TS.body mix Tryz.func72 (by kernel_rfl) rfl (by kernel_rfl) (by simp) ?_)
  simp
  refine TS.callW kd (Dws.self (by simp)) ?_
  simp
  refine vc_loop (fun i : Nat => Z.length - i) (fun i e H => e 0 = .sl .no (rels' l) ∧ e 10 = .sl .no (ints' Z) ∧ e 11 = .int .i64 Z.length ∧ e 12 = .int .i64 i ∧ i ≤ Z.length ∧ OrdQ l Z i H (e 5)) 0 ?_ ?_
  · simp
    exact ⟨[], rfl, .inl ⟨rfl, rfl⟩⟩
  rintro i e H ⟨e0, e10, e11, e12, hi, Q, hQ, hg⟩
  by_cases hlt : i < Z.length
  · have ew := wrap_next hlt (by omega)
    obtain ⟨m, hm1, hm2⟩ := hin i hlt
    have hnx := ordF_next (l := l) hlt hm1
    have hml : Q.length = i := by
      have := congrArg List.length hQ
      rwa [List.length_map, ordF_len hi] at this
    obtain ⟨z, hz⟩ : ∃ z, z = l.getD m zR := ⟨_, rfl⟩
    rw [← hz, ← hQ] at hnx
    by_cases hml2 : m < l.length
    · have hzz : l[m] = z := by rw [hz, getD_ltR hml2]
      rcases hg with ⟨gx, ge⟩ | ⟨t, gx, ht⟩
      · simp [e0, e10, e11, e12, hlt, hm1, hml2, hzz, gx]
        refine ⟨i + 1, by omega, ew, by omega, [(.no, .no, z)], ?_, .inr ⟨H.length + 1, rfl, by simp⟩⟩
        rw [hnx, ge]; rfl
      · have htl := (List.getElem?_eq_some_iff.1 ht).1
        have ht2 : ∀ Y : List HO, (H ++ Y)[t]? = some (.spare Q.length 2) := fun Y => by rw [List.getElem?_append_left htl]; exact ht
        simp [e0, e10, e11, e12, hlt, hm1, hml2, hzz, gx, ht2]
        refine ⟨by omega, i + 1, by omega, ew, by omega, Q ++ [(.no, .no, z)], ?_, .inr ⟨t, by simp [avs], by rw [List.getElem?_set_self (by simp; omega)]; simp⟩⟩
        rw [hnx, List.map_append]; rfl
    · have hzz : zR = z := by rw [hz, List.getD_eq_getElem?_getD, List.getElem?_eq_none (by omega)]; rfl
      rcases hg with ⟨gx, ge⟩ | ⟨t, gx, ht⟩
      · simp [e0, e10, e11, e12, hlt, hm1, hml2, gx]
        refine ⟨i + 1, by omega, ew, by omega, [(.exact, .exact, z)], ?_, .inr ⟨H.length + 1, by rw [← hzz]; rfl, by simp⟩⟩
        rw [hnx, ge]; rfl
      · have htl := (List.getElem?_eq_some_iff.1 ht).1
        have ht2 : ∀ Y : List HO, (H ++ Y)[t]? = some (.spare Q.length 2) := fun Y => by rw [List.getElem?_append_left htl]; exact ht
        simp [e0, e10, e11, e12, hlt, hm1, hml2, gx, ht2]
        refine ⟨by omega, i + 1, by omega, ew, by omega, Q ++ [(.exact, .exact, z)], ?_, .inr ⟨t, by rw [← hzz]; simp [avs, zR], by rw [List.getElem?_set_self (by simp; omega)]; simp⟩⟩
        rw [hnx, List.map_append]; rfl
  · have : i = Z.length := by omega
    subst this
    have hown : ∃ own, e 5 = .sl own (avs orel Q) := by
      rcases hg with ⟨gx, ge⟩ | ⟨t, gx, ht⟩
      · rw [ge]; exact ⟨_, gx⟩
      · exact ⟨_, gx⟩
    obtain ⟨own, gx⟩ := hown
    simp [e0, e10, e11, e12, gx]
    exact Frz.orels hQ
theorem T_rdEval (l : List Rel) (ps : List Int) (h : OkL l) (hp : ps.length ≤ 40) : T Tryz.prog 34 [.sl .no (rels' l), .sl .no (ints' ps)] (allJ ((treeOrd (playJ l (progL ps)) ps).map heldR)).av := by
  have hbl := belowL_len ps
  have hul : (upL ps).length = (belowL ps).length := by unfold upL; rw [List.length_map]
  have hplen : (progL ps).length ≤ 1000 := by unfold progL; simp; omega
  have hpl := playJ_len (progL ps) l
  have hlen := h.len
  have k1 := T_rdProgram ps (by omega)
  have k2 := T_rdPlay l (progL ps) h.okP (by omega)
  have k3 := T_rdOrder (playJ l (progL ps)) ps (by omega) (by omega)
  have k4 := T_sall (treeOrd (playJ l (progL ps)) ps) (h.play.order hp)
  refine T.introF (TS.body mix Tryz.func34 (by kernel_rfl) rfl (by kernel_rfl) (by simp) ?_)
  simp
  refine TS.callW k1 (Dws.self (by simp)) ?_
  simp
  refine TS.callW k2 (Dws.self (by simp)) ?_
  simp
  refine TS.callW k3 (Dws.self (by simp)) ?_
  simp
  refine TS.callW k4 (Dws.self (by simp)) ?_
  simp
  exact .agg (.cons (Frz.slN (f := AV.int .i64)) (.cons (Frz.slN (f := fun r => AV.sl .no (vals' r))) .nil))
end Go.Proofs.YtjplcdeaedflpaaGreatDoor.PL
namespace Go.Proofs.YtjplcdeaedflpaaGreatDoor.PL
open Go.Proofs Go.RowKit
set_option linter.unusedVariables false
set_option linter.unusedSimpArgs false
theorem heldI_tree {ps : List Int} (htr : treeI ps = true) : heldI ps = ps := if_pos htr
end Go.Proofs.YtjplcdeaedflpaaGreatDoor.PL
namespace Go.Proofs.YtjplcdeaedflpaaGreatDoor.PL
open Go.Proofs Go.RowKit
set_option linter.unusedVariables false
set_option linter.unusedSimpArgs false
theorem live25 {H : List HO} {K : AV → List HO → Prop} (h : K (.bool true) H) : TS Tryz.prog 24 [] H K := TS.callW T_live25 .nil h
theorem order_perm {X : List Rel} {ps : List Int} (htr : treeI ps = true) (hl : ps.length = X.length) : (treeOrd X ps).Perm X := by
  have h := treeOrd_perm X ps
  rw [heldI_tree htr, hl] at h
  rw [map_range] at h
  exact h
theorem order_all {l : List Rel} {ps : List Int} (prog : List (Int × Int)) (htr : treeI ps = true) (hl : ps.length = l.length) :
    (allJ ((treeOrd (playJ l prog) ps).map heldR)).cols = (allJ (l.map heldR)).cols ∧ (allJ ((treeOrd (playJ l prog) ps).map heldR)).rows.Perm (allJ (l.map heldR)).rows := by
  have h1 := order_perm (X := playJ l prog) htr (by rw [playJ_len, hl])
  have h2 := allJ_perm (h1.map heldR)
  rw [playJ_held, play_all prog (AllRight.held l)] at h2
  exact h2
theorem T_ReduceEvals (l : List Rel) (ps : List Int) (hl : l.length < 4611686018427387904) (hi : ∀ r, r ∈ l → RelIn r) (hp : ps.length < 4611686018427387904) : T Tryz.prog 6 [.sl .no (rels' l), .sl .no (ints' ps)] (.bool true) := by
  have kw := T_rwide24 l hl hi
  refine T.intro (TS.body mix Tryz.func6 (by kernel_rfl) rfl (by kernel_rfl) (by simp) ?_)
  simp
  refine TS.callW kw (Dws.self (by simp)) ?_
  cases hw : wideL l with
  | true =>
    simp
    refine GTK.callW (fun h => nomatch h) (ys := []) (r := .bool true) ?_
    simp
    refine live25 ?_
    simp
  | false =>
  obtain ⟨hok, hpr, hn⟩ := wideL_no hw hi
  by_cases he : ps.length = l.length
  · have he' : (ps.length : Int) = l.length := by omega
    have kt := T_rtree ps (by omega)
    simp [he, he']
    refine GTK.callW (fun _ => ⟨kt, Dws.self (by simp)⟩) ?_
    cases ht : treeI ps with
    | false =>
      simp
      refine live25 ?_
      simp
    | true =>
    have k1 := T_rdEval l ps hok (by omega)
    have k2 := T_rall24 l hok
    have h1 := order_all (l := l) (progL ps) ht he
    have k3 := T_rbag24 _ _ h1.1 h1.2 (hok.play.order (by omega)).held.all
    simp
    refine TS.callW k1 (Dws.self (by simp)) ?_
    simp
    refine TS.callW k2 (Dws.self (by simp)) ?_
    simp
    refine TS.callW k3 (Dws.self (by simp)) ?_
    simp
    refine GTK.callW (fun _ => ⟨T_live25, .nil⟩) ?_
    simp
  · have he' : ¬ (ps.length : Int) = l.length := by omega
    simp [he, he']
    refine GTK.callW (fun h => nomatch h) (ys := []) (r := .bool true) ?_
    simp
    refine live25 ?_
    simp
theorem S_ReduceEvals {xs : List AV} (h : ShA Tryz.prog [31, 22] xs) : T Tryz.prog 6 xs (.bool true) := by
  obtain ⟨y, r, rfl, h0, h⟩ := h.cons_of ag_31
  obtain ⟨y, r, rfl, h1, h⟩ := h.cons_of ag_22
  obtain rfl := h.nil_of
  obtain ⟨l, rfl, hi, hl⟩ := rels_in h0
  obtain ⟨ps, rfl, hn⟩ := ints_in h1
  exact T_ReduceEvals l ps hl hi hn.2
end Go.Proofs.YtjplcdeaedflpaaGreatDoor.PL
