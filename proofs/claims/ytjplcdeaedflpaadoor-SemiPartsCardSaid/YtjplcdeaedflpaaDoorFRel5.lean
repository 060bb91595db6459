/- Relations: rows that match, found by their keys. -/
import Derived.Test.YtjplcdeaedflpaaDoorFRel4
namespace Go.Proofs.YtjplcdeaedflpaaDoor.PL
open Go.Proofs
set_option linter.unusedVariables false
set_option linter.unusedSimpArgs false
/-- does the j-th row match? -/
def hitB (r : Rel) (cs : List Int) (key : List Val) (j : Nat) : Bool := matchV key (valsF r.cols (r.rows.getD j []) cs)
def hitI (r : Rel) (cs : List Int) (key : List Val) (j : Int) : Bool := hitB r cs key j.toNat
def hitsN (r : Rel) (cs : List Int) (key : List Val) : List Nat := (List.range r.rows.length).filter (hitB r cs key)
def hits (r : Rel) (cs : List Int) (key : List Val) : List Int := (hitsN r cs key).map fun j : Nat => (j : Int)
theorem hits_of {r : Rel} {cs : List Int} {L : PlL} (hL : ∀ k, placeK k L = idsK (keyF r cs) k r.rows.length) (key : List Val) : (placeK (keyR key) L).filter (hitI r cs key) = hits r cs key := by
  rw [hL]
  unfold idsK hits hitsN
  rw [List.filter_map, List.filter_filter]
  congr 1
  apply List.filter_congr
  intro j hj
  show (hitB r cs key ((j : Int).toNat) && decide (keyF r cs j = keyR key)) = hitB r cs key j
  rw [Int.toNat_natCast]
  cases h : hitB r cs key j with
  | false => rfl
  | true =>
    unfold hitB matchV at h
    simp only [Bool.and_eq_true, decide_eq_true_iff] at h
    have : keyF r cs j = keyR key := by unfold keyF; rw [← h.1]
    simp [this]
theorem place_in {r : Rel} {cs : List Int} {L : PlL} (hL : ∀ k, placeK k L = idsK (keyF r cs) k r.rows.length) {k : ByteArray} {j : Int} (h : j ∈ placeK k L) : ∃ n : Nat, j = n ∧ n < r.rows.length := by
  rw [hL] at h
  unfold idsK at h
  obtain ⟨n, h1, rfl⟩ := List.mem_map.1 h
  exact ⟨n, rfl, by simpa using (List.mem_filter.1 h1).1⟩
theorem hits_any (r : Rel) (cs : List Int) (key : List Val) : decide (0 < ((hits r cs key).length : Int)) = r.rows.any fun y => matchV key (valsF r.cols y cs) := by
  have e : (hits r cs key).length = (hitsN r cs key).length := by simp [hits]
  rw [e]
  cases h : r.rows.any fun y => matchV key (valsF r.cols y cs) with
  | true =>
    obtain ⟨y, hy, hm⟩ := List.any_eq_true.1 h
    obtain ⟨j, hj, rfl⟩ := List.getElem_of_mem hy
    have : j ∈ hitsN r cs key := List.mem_filter.2 ⟨by simpa using hj, by unfold hitB; rw [List.getD_eq_getElem?_getD, List.getElem?_eq_getElem hj]; exact hm⟩
    have := List.length_pos_of_mem this
    simp; omega
  | false =>
    have : hitsN r cs key = [] := by
      unfold hitsN
      rw [List.filter_eq_nil_iff]
      intro j hj
      rw [List.any_eq_false] at h
      have hj := List.mem_range.1 hj
      have := h _ (List.getElem_mem hj)
      unfold hitB
      rw [List.getD_eq_getElem?_getD, List.getElem?_eq_getElem hj]
      exact this
    rw [this]; simp
abbrev idxA (r : Rel) (cs : List Int) (m : Nat) : List AV := [.sl .no (ints' r.cols), .sl .no (rows' r.rows), .sl .no (ints' cs), .map m]
theorem S_match1 (H : List HO) (r : Rel) (cs : List Int) (key : List Val) (p q m : Nat) (j : Nat) (hr : OkR r) (hc : cs.length ≤ 40) (hk : key.length ≤ 1000) (hp : H[p]? = some (.box [rowA key])) (hq : H[q]? = some (.box (idxA r cs m))) (hj : j < r.rows.length) : TS Tryd.prog 42 [.int .i64 (j : Int), .ptr p 0, .ptr q 0] H (pt (.bool (hitI r cs key (j : Int))) H) := by
  have hrow := hr.row _ (List.getElem_mem hj)
  have k1 := T_svalues r r.rows[j] cs hr.nc hrow.1 (by omega)
  have k2 := T_smatch key (valsF r.cols r.rows[j] cs) (by omega)
  have hh : hitI r cs key (j : Int) = matchV key (valsF r.cols r.rows[j] cs) := by unfold hitI hitB; rw [Int.toNat_natCast, List.getD_eq_getElem?_getD, List.getElem?_eq_getElem hj]; rfl
  rw [hh]
  refine TS.body mix Tryd.func42 (by kernel_rfl) rfl (by kernel_rfl) (by simp) ?_
  simp [hp, hq, hj]
  refine TDK.callW k1 (Dws.self (by simp)) ?_
  simp [hp, hq, hj]
  refine TDK.callW k2 (Dws.self (by simp)) ?_
  simp
theorem S_matches (H : List HO) (r : Rel) (cs : List Int) (key : List Val) (m : Nat) (L : PlL) (hr : OkR r) (hc : cs.length ≤ 40) (hk : key.length ≤ 40) (hki : i64V key) (hks : ∀ v, v ∈ key → v.s.size ≤ 2000) (hm : H[m]? = some (.mp (plA L) (some 0)))
    (hL : ∀ k, placeK k L = idsK (keyF r cs) k r.rows.length) : TS Tryd.prog 20 [.agg (idxA r cs m), rowA key] H (pt (.sl .no (ints' (hits r cs key))) H) := by
  have hml := (List.getElem?_eq_some_iff.1 hm).1
  have k1 := T_rowKey key hk hki hks
  have hnr := hr.nr
  have hpl : (placeK (keyR key) L).length ≤ 1000000 := by have := idsK_len (keyF r cs) (keyR key) r.rows.length; rw [← hL] at this; omega
  have hm' : ∀ Y : List HO, (H ++ Y)[m]? = some (.mp (plA L) (some 0)) := fun Y => by rw [List.getElem?_append_left hml]; exact hm
  have k2 : ∀ own, TS Tryd.prog 41 [.sl own (ints' (placeK (keyR key) L)), .fn (.func 42) [] [.ptr (H.length + 1) 0, .ptr H.length 0]] (H ++ [.box (idxA r cs m), .box [rowA key]]) (pt (.sl .no (ints' (hits r cs key))) (H ++ [.box (idxA r cs m), .box [rowA key]])) := fun own => by
    have := S_keepI (H ++ [.box (idxA r cs m), .box [rowA key]]) own 42 [.ptr (H.length + 1) 0, .ptr H.length 0] (placeK (keyR key) L) (hitI r cs key) hpl fun x hx J => by
      obtain ⟨n, rfl, hn⟩ := place_in hL hx
      exact S_match1 _ r cs key (H.length + 1) H.length m n hr hc (by omega) (by rw [List.append_assoc, app_atn]; rfl) (by rw [List.append_assoc]; simp) hn
    rw [hits_of hL] at this
    exact this
  refine TS.dropF (H0 := H) ?_ (Nat.le_refl _) (fun h hm => .inl hm)
  refine TS.bodyM [100001, 2000106, 1010601, 1010602, 1010604] mix Tryd.func20 (by kernel_rfl) rfl (by kernel_rfl) (by simp) ?_
  simp
  refine TDK.callW k1 (Dws.self (by simp)) ?_
  cases hget : getL (keyR key) L with
  | none =>
    have hp : placeK (keyR key) L = [] := by unfold placeK; rw [hget]
    rw [hp] at k2
    simp [hm', keys_str, found_mpA, hget, -foundV]
    refine TWK.call (k2 _) ?_
    simp [hm', keys_str, found_mpA, hget, -foundV]
    exact Frz.slN (f := AV.int .i64)
  | some p =>
    obtain ⟨o, c⟩ := p
    have hp : placeK (keyR key) L = c := by unfold placeK; rw [hget]
    rw [hp] at k2
    simp [hm', keys_str, found_mpA, hget, oslA, -foundV]
    refine TWK.call (k2 _) ?_
    simp [hm', keys_str, found_mpA, hget, oslA, -foundV]
    exact Frz.slN (f := AV.int .i64)
theorem S_some1 (H : List HO) (a r : Rel) (cs : List Int) (x : List Val) (w : Bool) (p1 p2 p3 p4 m : Nat) (L : PlL) (ha : OkR a) (hx : x ∈ a.rows) (hr : OkR r) (hc : cs.length ≤ 40) (h1 : H[p1]? = some (.box (idxA r cs m))) (h2 : H[p2]? = some (.box a.cs)) (h3 : H[p3]? = some (.box [.sl .no (ints' cs)])) (h4 : H[p4]? = some (.box [.bool w])) (hm : H[m]? = some (.mp (plA L) (some 0)))
    (hL : ∀ k, placeK k L = idsK (keyF r cs) k r.rows.length) : TS Tryd.prog 30 [rowA x, .ptr p1 0, .ptr p2 0, .ptr p3 0, .ptr p4 0] H (pt (.bool ((r.rows.any fun y => matchV (valsF a.cols x cs) (valsF r.cols y cs)) == w)) H) := by
  have hrow := ha.row _ hx
  have k1 := T_svalues a x cs ha.nc hrow.1 (by omega)
  have hv := valsF_ok ha hx cs
  have k2 := S_matches H r cs (valsF a.cols x cs) m L hr hc (by simpa [valsF] using hc) hv.1 hv.2 hm hL
  rw [← hits_any]
  refine TS.bodyM [100001, 2000105, 1010500, 1010501, 1010503] mix Tryd.func30 (by kernel_rfl) rfl (by kernel_rfl) (by simp) ?_
  simp [h1, h2, h3, h4]
  refine TDK.callW k1 (Dws.self (by simp)) ?_
  simp [h1, h2, h3, h4]
  refine TWK.call k2 ?_
  simp [h1, h2, h3, h4]
abbrev bothR (a b : Rel) : List Int := sharedI a.cols b.cols
def meetB (a b : Rel) (x y : List Val) : Bool := matchV (valsF a.cols x (bothR a b)) (valsF b.cols y (bothR a b))
/-- those rows that have a match, or those that have none -/
def someR (a b : Rel) (w : Bool) : Rel := ⟨a.cols, a.rows.filter fun x => (b.rows.any fun y => meetB a b x y) == w⟩
theorem bothR_len (a b : Rel) : (bothR a b).length ≤ a.cols.length := Nat.le_trans (List.length_filter_le ..) (setI_len _)
theorem BM.out {H : List HO} {r : Rel} {cs : List Int} {L : PlL} {M H' : List HO} {c4 : List AV} (h : BM H r cs L M) (hH : H' = M.set (H.length + 1) (.box c4)) : ∃ J, H' = H ++ J ∧ H'[H.length + 2]? = some (.mp (plA L) (some 0)) := by
  obtain ⟨J, hJ⟩ := h.app
  refine ⟨J.set 1 (.box c4), ?_, ?_⟩
  · rw [hH, hJ, app_setn]
  · rw [hH, List.getElem?_set_ne (by omega)]; exact h.gm
set_option maxRecDepth 4000 in
theorem T_some (p q : Rel) (w : Bool) (hp : OkR p) (hq : OkR q) (hc : p.cols.length ≤ 40) : T Tryd.prog 15 [p.av, q.av, .bool w] (someR (heldR p) (heldR q) w).av := by
  have k1 := T_sheld p hp
  have k2 := T_sheld q hq
  have ha := heldR_ok hp
  have hb := heldR_ok hq
  have hac : (heldR p).cols.length ≤ 40 := by unfold heldR; split; exact hc; simp [zR]
  obtain ⟨a, haa⟩ : ∃ a, a = heldR p := ⟨_, rfl⟩
  obtain ⟨b, hbb⟩ : ∃ b, b = heldR q := ⟨_, rfl⟩
  rw [← haa] at k1 ha hac ⊢
  rw [← hbb] at k2 hb ⊢
  have hnc := ha.nc
  have hnb := hb.nc
  have hnr := ha.nr
  have k3 := T_shared a.cols b.cols (by omega) (by omega)
  have hbl := bothR_len a b
  have kb := S_build [.box a.cs, .box b.cs, .box [.bool w], .box [.sl .exact [], .sl .exact []], .box [.sl .no (ints' (bothR a b))]] b (bothR a b) hb (by omega)
  have k5 := T_scopied (someR a b w).rows (Nat.le_trans (List.length_filter_le ..) hnr) fun x hx => by have := (ha.row x (List.mem_filter.1 hx).1).1; omega
  refine T.introF (TS.body mix Tryd.func15 (by kernel_rfl) rfl (by kernel_rfl) (by simp) ?_)
  simp
  refine TDK.callW k1 (Dws.self (by simp)) ?_
  simp
  refine TDK.callW k2 (Dws.self (by simp)) ?_
  simp
  refine TS.callW k3 (Dws.self (by simp)) ?_
  simp
  refine kb.mono ?_
  rintro x H' ⟨L, rfl, ⟨M, hM, c4, hH⟩, hL⟩
  obtain ⟨J, rfl, hm⟩ := hM.out hH
  clear hM hH
  simp at hm
  simp
  have ks := S_keepR (.box a.cs :: .box b.cs :: .box [.bool w] :: .box [.sl .exact [], .sl .exact []] :: .box [.sl .no (ints' (bothR a b))] :: (J ++ [.box (idxA b (bothR a b) 7)])) .no 30 [.ptr (J.length + 1 + 1 + 1 + 1 + 1) 0, .ptr 0 0, .ptr 4 0, .ptr 2 0] a.rows (fun x => (b.rows.any fun y => meetB a b x y) == w) (by omega) fun x hx J2 =>
    S_some1 _ a b (bothR a b) x w _ _ _ _ 7 L ha hx hb (by omega) (by simp) (by simp) (by simp) (by simp) (by simp; rw [List.getElem?_append_left (List.getElem?_eq_some_iff.1 hm).1]; exact hm) hL
  refine TS.pt ks ?_
  simp
  refine TS.callW k5 (Dws.self (by simp)) ?_
  simp
  exact .agg (.cons (Frz.slN (f := AV.int .i64)) (.cons (Frz.slN (f := fun r => AV.sl .no (vals' r))) .nil))
theorem T_semijoin (p q : Rel) (hp : OkR p) (hq : OkR q) (hc : p.cols.length ≤ 40) : T Tryd.prog 7 [p.av, q.av] (someR (heldR p) (heldR q) true).av := by
  have k := T_some p q true hp hq hc
  obtain ⟨s, hs⟩ : ∃ s, s = someR (heldR p) (heldR q) true := ⟨_, rfl⟩
  rw [← hs] at k ⊢
  refine T.introF (TS.body mix Tryd.func7 (by kernel_rfl) rfl (by kernel_rfl) (by simp) ?_)
  simp
  refine TS.callW k (Dws.self (by simp)) ?_
  simp
  exact .agg (.cons (Frz.slN (f := AV.int .i64)) (.cons (Frz.slN (f := fun r => AV.sl .no (vals' r))) .nil))
theorem T_anti (p q : Rel) (hp : OkR p) (hq : OkR q) (hc : p.cols.length ≤ 40) : T Tryd.prog 13 [p.av, q.av] (someR (heldR p) (heldR q) false).av := by
  have k := T_some p q false hp hq hc
  obtain ⟨s, hs⟩ : ∃ s, s = someR (heldR p) (heldR q) false := ⟨_, rfl⟩
  rw [← hs] at k ⊢
  refine T.introF (TS.body mix Tryd.func13 (by kernel_rfl) rfl (by kernel_rfl) (by simp) ?_)
  simp
  refine TS.callW k (Dws.self (by simp)) ?_
  simp
  exact .agg (.cons (Frz.slN (f := AV.int .i64)) (.cons (Frz.slN (f := fun r => AV.sl .no (vals' r))) .nil))
end Go.Proofs.YtjplcdeaedflpaaDoor.PL
