/- Contracts of functions of the program, and plain laws (part 8): Relations along a tree: the statements of the same rows, and of sizes. -/
import Derived.Test.YtjplcdeaedflpaaGreatDoorB7
namespace Go.Proofs.YtjplcdeaedflpaaGreatDoor.PL
open Go.Proofs Go.RowKit
set_option linter.unusedVariables false
set_option linter.unusedSimpArgs false
theorem live25 {H : List HO} {K : AV → List HO → Prop} (h : K (.bool true) H) : TS Tryz.prog 24 [] H K := TS.callW T_live25 .nil h
theorem order_perm {X : List Rel} {ps : List Int} (htr : treeI ps = true) (hl : ps.length = X.length) : (treeOrd X ps).Perm X := by
  have h := treeOrd_perm X ps
  rw [heldI_tree htr, hl] at h
  rw [map_range] at h
  exact h
theorem order_all {l : List Rel} {ps : List Int} (prog : List (Int × Int)) (htr : treeI ps = true) (hl : ps.length = l.length) :
    (allJ ((treeOrd (playJ l prog) ps).map heldR)).cols = (allJ (l.map heldR)).cols ∧ (allJ ((treeOrd (playJ l prog) ps).map heldR)).rows.Perm (allJ (l.map heldR)).rows := by
  have h1 := order_perm (X := playJ l prog) htr (by rw [playJ_len, hl])
  have h2 := allJ_perm (h1.map heldR)
  rw [playJ_held, play_all prog (AllRight.held l)] at h2
  exact h2
def colsH (l : List Rel) : List (List Int) := l.map Rel.cols
theorem colsH_get (l : List Rel) (i : Nat) : (l.getD i zR).cols = (colsH l).getD i [] := by
  unfold colsH
  rw [List.getD_eq_getElem?_getD, List.getD_eq_getElem?_getD, List.getElem?_map]
  cases l[i]? <;> simp [zR]
theorem colsH_ok {l : List Rel} (h : OkL l) : HsOk (colsH l) := ⟨by have := h.len; simp [colsH]; omega, fun c hc => by
  obtain ⟨r, hr, rfl⟩ := List.mem_map.1 hc
  have := h.nc r hr
  omega⟩
theorem T_rCols25 (l : List Rel) (hl : l.length ≤ 1000) : T Tryz.prog 37 [.sl .no (rels' l)] (.sl .no (lists' (colsH l))) := by
  refine T.introF (TS.body mix Tryz.func37 (by kernel_rfl) rfl (by kernel_rfl) (by simp) ?_)
  simp
  refine vc_loop (fun i : Nat => l.length - i) (fun i e H => e 0 = .sl .no (rels' l) ∧ e 4 = .int .i64 i ∧ i ≤ l.length ∧ Grow1 1 H (e 3) (lists' (colsH (l.take i)))) 0 ?_ ?_
  · simp
    exact .nil
  rintro i e H ⟨e0, e4, hi, hg⟩
  by_cases hlt : i < l.length
  · have ew := wrap_next hlt (by omega)
    have hnx : colsH (l.take (i + 1)) = colsH (l.take i) ++ [l[i].cols] := by unfold colsH; rw [take_next hlt, List.map_append]; rfl
    have hml : (colsH (l.take i)).length = i := by simp [colsH]; omega
    simp [e0, e4, hlt]
    rcases hg with ⟨ge, gx⟩ | ⟨t, gx, ht⟩
    · rw [avs_eq_nil] at ge
      simp [e0, e4, hlt, gx]
      refine ⟨i + 1, by omega, ew, by omega, ?_⟩
      rw [hnx]
      exact Grow1.first (f := slA (AV.int .i64)) ge rfl
    · have hw := ht
      simp only [avs_length] at hw
      simp [e0, e4, hlt, gx, hw]
      refine ⟨by omega, i + 1, by omega, ew, by omega, ?_⟩
      rw [hnx]
      exact Grow1.more (f := slA (AV.int .i64)) ht (by omega)
  · have : i = l.length := by omega
    subst this
    rw [List.take_length] at hg
    obtain ⟨own, gx⟩ := hg.own
    simp [e0, e4, gx]
    exact Frz.slN (f := slA (AV.int .i64))
theorem T_rjoinsN (h : List (List Int)) (ps : List Int) (hh : HsOk h) (hl : ps.length < 4611686018427387904) : T Tryz.prog 36 [.sl .no (lists' h), .sl .no (ints' ps)] (.bool (joinsI h ps)) := by
  have hn := hh.n
  by_cases he : ps.length = h.length
  · exact T_rjoins h ps hh (by omega)
  · have hno : joinsI h ps = false := joinsI_no fun hj => he hj.1
    have he' : ¬ (ps.length : Int) = h.length := by omega
    rw [hno]
    refine T.intro (TS.body mix Tryz.func36 (by kernel_rfl) rfl (by kernel_rfl) (by simp) ?_)
    simp [he, he']
    refine GTK.callW (fun h => nomatch h) (ys := []) (r := .bool true) ?_
    simp
theorem all_right {l : List Rel} : l.all rightR = true ↔ AllRight l := by rw [List.all_eq_true]; rfl
theorem allH_right {L : List Rel} (h : AllRight L) (k : Nat) : allH L k = allJ (L.take k) := by
  unfold allH
  congr 1
  exact AllRight.map fun r hr => h r (List.mem_of_mem_take hr)
/-- sizes along a join tree rise, to the size of all -/
theorem sizes_tree {l : List Rel} {ps : List Int} (hr : AllRight l) (hj : joinsP (colsH l) ps) : (treeOrd (playJ l (progL ps)) ps).length = l.length ∧
    (allH (treeOrd (playJ l (progL ps)) ps) l.length).rows.length = (allJ l).rows.length ∧
    ∀ k, 0 < k → k < l.length → (allH (treeOrd (playJ l (progL ps)) ps) k).rows.length ≤ (allH (treeOrd (playJ l (progL ps)) ps) (k + 1)).rows.length := by
  have hjj := hj
  obtain ⟨hl, htr, _⟩ := hj
  have hl' : ps.length = l.length := by simpa [colsH] using hl
  have hX := playJ_right (progL ps) hr
  have hXl : (playJ l (progL ps)).length = ps.length := by rw [playJ_len, hl']
  have hlen : (treeOrd (playJ l (progL ps)) ps).length = l.length := by rw [(order_perm htr hXl.symm).length_eq, playJ_len]
  have hL : AllRight (treeOrd (playJ l (progL ps)) ps) := fun r hr' => hX r ((order_perm htr hXl.symm).mem_iff.1 hr')
  have hcols := fun i => (play_less (progL ps) hr).cols i
  have hm := fun b p hb hf => (tree_played (b := b) (p := p) hr htr hl'.symm hb hf).1
  have hh : Hangs ps.length (fOf ps) (playJ l (progL ps)) := hang_of (fun i => by rw [hcols, colsH_get]) (joins_hang hjj) _
  refine ⟨hlen, ?_, fun k h0 hk => ?_⟩
  · have := (order_all (progL ps) htr hl').2.length_eq
    unfold allH
    rw [← hlen, List.take_length, this, hr.map]
  · have ho := tree_ord htr
    have := rises_one ho hXl hm hh h0 (by rw [ho.len]; omega)
    rw [List.map_take, List.map_take] at this
    rw [allH_right hL, allH_right hL, treeOrd_N htr]
    exact this
theorem T_ReduceRises (l : List Rel) (ps : List Int) (hl : l.length < 4611686018427387904) (hi : ∀ r, r ∈ l → RelIn r) (hp : ps.length < 4611686018427387904) : T Tryz.prog 7 [.sl .no (rels' l), .sl .no (ints' ps)] (.bool true) := by
  have kw := T_rwide24 l hl hi
  refine T.intro (TS.body mix Tryz.func7 (by kernel_rfl) rfl (by kernel_rfl) (by simp) ?_)
  simp
  refine TS.callW kw (Dws.self (by simp)) ?_
  cases hw : wideL l with
  | true =>
    simp
    refine GTK.callW (fun h => nomatch h) (ys := []) (r := .bool true) ?_
    simp
    refine GTK.callW (fun h => nomatch h) (ys := []) (r := .bool true) ?_
    simp
    refine GTK.callW (fun h => nomatch h) (ys := []) (r := .bool true) ?_
    simp
    refine live25 ?_
    simp
  | false =>
  obtain ⟨hok, hpr, hn⟩ := wideL_no hw hi
  have kr := T_rRight25 l hok
  simp
  refine GTK.callW (fun _ => ⟨kr, Dws.self (by simp)⟩) ?_
  cases hra : l.all rightR with
  | false =>
    simp
    refine GTK.callW (fun h => nomatch h) (ys := []) (r := .bool true) ?_
    simp
    refine GTK.callW (fun h => nomatch h) (ys := []) (r := .bool true) ?_
    simp
    refine live25 ?_
    simp
  | true =>
  have hr := all_right.1 hra
  by_cases h0 : l.length = 0
  · have e0 : l = [] := List.eq_nil_of_length_eq_zero h0
    subst e0
    simp
    refine GTK.callW (fun h => nomatch h) (ys := []) (r := .bool true) ?_
    simp
    refine GTK.callW (fun h => nomatch h) (ys := []) (r := .bool true) ?_
    simp
    refine live25 ?_
    simp
  have h0' : ¬ (l.length : Int) = 0 := by omega
  have h0'' : ¬ l = [] := fun e => h0 (by rw [e]; rfl)
  have kc := T_rCols25 l (by omega)
  have kj := T_rjoinsN (colsH l) ps (colsH_ok hok) hp
  simp [h0, h0', h0'']
  refine GTK.callW (fun _ => ⟨kc, Dws.self (by simp)⟩) ?_
  simp
  refine GTK.callW (fun _ => ⟨kj, Dws.self (by simp)⟩) ?_
  cases hj : joinsI (colsH l) ps with
  | false =>
    simp
    refine live25 ?_
    simp
  | true =>
  have hj := joinsI_iff.1 hj
  have hpl : ps.length = l.length := by simpa [colsH] using hj.1
  obtain ⟨q1, q2, q3⟩ := sizes_tree hr hj
  have hbl := belowL_len ps
  have hul : (upL ps).length = (belowL ps).length := by unfold upL; rw [List.length_map]
  have hplen : (progL ps).length ≤ 1000 := by unfold progL; simp; omega
  have k1 := T_rdProgram ps (by omega)
  have k2 := T_rdPlay l (progL ps) hok.okP (by omega)
  have k3 := T_rdSizes (playJ l (progL ps)) ps hok.play (by omega)
  have k4 := T_rall24 l hok
  rw [hr.map] at k4
  rw [q1] at k3
  have oa : (allJ l).rows.length ≤ 100000 := by have := hok.held.all.nr; rwa [hr.map] at this
  generalize treeOrd (playJ l (progL ps)) ps = L at *
  have hsl := sizesR_len L l.length
  have hsg : ∀ k, k < l.length → (sizesR L l.length)[k]? = some ((allH L (k + 1)).rows.length : Int) := fun k h => by simp [sizesR, h]
  generalize sizesR L l.length = S at *
  have hat : ∀ k (h : k < S.length), S[k] = ((allH L (k + 1)).rows.length : Int) := fun k h => by
    have := hsg k (by omega)
    rw [List.getElem?_eq_getElem h] at this
    exact Option.some.inj this
  have hlast : ∀ (h : l.length - 1 < S.length), S[l.length - 1] = ((allJ l).rows.length : Int) := fun h => by
    rw [hat, show l.length - 1 + 1 = l.length by omega, q2]
  have hmono : ∀ k (h : k + 1 < S.length), S[k]'(by omega) ≤ S[k + 1] := fun k h => by
    rw [hat, hat]
    have := q3 (k + 1) (by omega) (by omega)
    omega
  have e1 : IntKind.i64.wrap ((l.length : Int) - 1) = ((l.length - 1 : Nat) : Int) := by rw [wrap_i64 (by omega) (by omega)]; omega
  have hll : l.length - 1 < S.length := by omega
  have hlast := hlast hll
  simp
  refine TS.callW k1 (Dws.self (by simp)) ?_
  simp
  refine TS.callW k2 (Dws.self (by simp)) ?_
  simp
  refine TS.callW k3 (Dws.self (by simp)) ?_
  have hq : S[l.length - 1]? = some ((allJ l).rows.length : Int) := by rw [List.getElem?_eq_getElem hll, hlast]
  have hlt1 : l.length - 1 < l.length := by omega
  simp [hsl, e1, hq, hlt1]
  refine GTK.callW (fun _ => ⟨k4, Dws.self (by simp)⟩) ?_
  have hl9 := hlast
  simp [hsl, e1, hq, hl9]
  refine vc_loop (fun i : Nat => l.length - i) (fun i e H => e 5 = .sl .no (ints' S) ∧ e 6 = .int .i64 i ∧ 1 ≤ i ∧ i ≤ l.length) 1 ?_ ?_
  · simp
    omega
  rintro i e H ⟨e5, e6, hi1, hi2⟩
  by_cases hlt : i < l.length
  · have ew := wrap_next hlt (by omega)
    obtain ⟨k, rfl⟩ : ∃ k, i = k + 1 := ⟨i - 1, by omega⟩
    have ew2 : IntKind.i64.wrap (((k + 1 : Nat) : Int) - 1) = (k : Int) := by rw [wrap_i64 (by omega) (by omega)]; omega
    have hk1 : k + 1 < S.length := by omega
    have hk : k < S.length := by omega
    have hm := hmono k hk1
    have hno : ¬ S[k + 1] < S[k] := by omega
    obtain ⟨x, hx⟩ : ∃ x, x = k + 1 := ⟨_, rfl⟩
    rw [← hx] at ew ew2 hlt e6
    have hxl : x < S.length := by omega
    have hno' : ¬ S[x] < S[k] := by subst hx; exact hno
    have hk2 : k < l.length := by omega
    have hg1 : S[k]? = some S[k] := List.getElem?_eq_getElem hk
    have hg2 : S[x]? = some S[x] := List.getElem?_eq_getElem hxl
    simp [e5, e6, ew2, hk2, hg1, hg2, hno', hsl, hlt]
    exact ⟨x + 1, by omega, ew, by omega, by omega⟩
  · have : i = l.length := by omega
    subst this
    simp [e5, e6, hsl]
    refine live25 ?_
    simp
theorem S_ReduceRises {xs : List AV} (h : ShA Tryz.prog [31, 22] xs) : T Tryz.prog 7 xs (.bool true) := by
  obtain ⟨y, r, rfl, h0, h⟩ := h.cons_of ag_31
  obtain ⟨y, r, rfl, h1, h⟩ := h.cons_of ag_22
  obtain rfl := h.nil_of
  obtain ⟨l, rfl, hi, hl⟩ := rels_in h0
  obtain ⟨ps, rfl, hn⟩ := ints_in h1
  exact T_ReduceRises l ps hl hi hn.2
end Go.Proofs.YtjplcdeaedflpaaGreatDoor.PL
