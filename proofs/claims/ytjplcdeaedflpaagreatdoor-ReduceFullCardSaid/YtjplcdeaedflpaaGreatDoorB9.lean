/- Contracts of functions of the program, and plain laws (part 9): The rows that take part: in the program; Rooted, by the reference; What is reduced: all rows take part. -/
import Derived.Test.YtjplcdeaedflpaaGreatDoorB8
namespace Go.Proofs.YtjplcdeaedflpaaGreatDoor.PL
open Go.Proofs Go.RowKit
set_option linter.unusedVariables false
set_option linter.unusedSimpArgs false
/-- a copy that may be written -/
theorem S_cloneRel (H : List HO) (l : List Rel) (h0 : ¬ l = []) (hl : l.length ≤ 1000000) : TS Tryz.prog 110 [.sl .no (rels' l)] H (fun r H' => r = .mv H.length l.length 2 0 l.length ∧ H' = H ++ [.row l.length 2 ((rels' l).flatMap AV.cells)]) := by
  refine TS.exd ?_
  refine TS.bodyM [7] mix Tryz.func110 (by kernel_rfl) rfl (by kernel_rfl) (by simp) ?_
  have hp : 0 < l.length := List.length_pos_iff.2 h0
  have hml := flatA_len (f := Rel.av) (sz := 2) l
  simp [h0, hp]
  exact ⟨by simp [isSlT, un_31], by omega, by omega⟩
theorem T_rdPart (l : List Rel) (i : Nat) (x : List Val) (h : OkL l) (hi : i < l.length) (hx : x ∈ l[i].rows) : T Tryz.prog 82 [.sl .no (rels' l), .int .i64 i, rowA x] (.bool (partG l i x)) := by
  have hgd : l.getD i zR = l[i] := getD_ltR hi
  have ka := T_sall (oneR l i x) (oneR_ok h (i := i) (x := x) (by rw [hgd]; exact hx))
  have hao := (oneR_ok h (i := i) (x := x) (by rw [hgd]; exact hx)).held.all
  unfold partG
  obtain ⟨A, hA⟩ : ∃ A, A = allJ ((oneR l i x).map heldR) := ⟨_, rfl⟩
  rw [← hA] at ka hao ⊢
  have hl0 : ¬ l = [] := fun e => by rw [e] at hi; cases hi
  have hlen := h.len
  have hml := flatA_len (f := Rel.av) (sz := 2) l
  have hml0 := hml
  rw [List.length_flatMap] at hml
  obtain ⟨r, hrr⟩ : ∃ r, r = l[i] := ⟨_, rfl⟩
  rw [← hrr] at hgd hx
  obtain ⟨Q, hQ⟩ : ∃ Q, Q = (l.map fun r => (Own.no, Own.no, r)).set i (Own.no, Own.exact, ⟨r.cols, [x]⟩) := ⟨_, rfl⟩
  have hQ2 : Q.map (fun q => q.2.2) = oneR l i x := by
    rw [hQ, List.map_set, List.map_map]
    unfold oneR
    rw [hgd]
    congr 1
    exact List.map_id _
  have hQl : Q.length = l.length := by rw [hQ]; simp
  have hput : ((rels' l).flatMap AV.cells).take (i * 2 + 1) ++ .sl .exact [.sl .no (vals' x)] :: ((rels' l).flatMap AV.cells).drop (i * 2 + 1 + 1) = (avs orel Q).flatMap AV.cells := by
    have := flatA_put (f := orel) (sz := 2) (l.map fun r => (Own.no, Own.no, r)) (i := i) (by simpa using hi) (k := 1) (new := [.sl .exact [.sl .no (vals' x)]]) (a := (Own.no, Own.exact, ⟨r.cols, [x]⟩)) (by simp) (by simp [hrr])
    rw [orel_no, ← hQ] at this
    exact this
  refine T.intro (TS.body mix Tryz.func82 (by kernel_rfl) rfl (by kernel_rfl) (by simp) ?_)
  simp
  refine TS.mono (S_cloneRel _ l hl0 (by omega)) ?_
  rintro y H ⟨rfl, rfl⟩
  simp [hi, hml]
  refine ⟨by omega, ?_⟩
  rw [hput]
  refine TS.freezeR (i := 0) (n := l.length) (sz := 2) (ys := rels' (oneR l i x)) (cs := (avs orel Q).flatMap AV.cells) (args' := [.sl .no (rels' (oneR l i x))]) rfl ?_ ?_ ?_ (.row .nil) ?_
  · rw [← hQ2]; exact FrzC.orels Q
  · simp [oneR]
  · intro z hz
    obtain ⟨a, _, rfl⟩ := mem_avs.1 hz
    rfl
  refine TS.call' ka (by simp) ?_
  simp
theorem S_rdFull1 (H : List HO) (a b : Nat) (l : List Rel) (i : Nat) (x : List Val) (h : OkL l) (hi : i < l.length) (hx : x ∈ l[i].rows) (ha : H[a]? = some (.box [.sl .no (rels' l)])) (hb : H[b]? = some (.box [.int .i64 i])) : TS Tryz.prog 81 [rowA x, .ptr a 0, .ptr b 0] H (pt (.bool (!partG l i x)) H) := by
  have hal := (List.getElem?_eq_some_iff.1 ha).1
  have hbl := (List.getElem?_eq_some_iff.1 hb).1
  have k := T_rdPart l i x h hi hx
  refine TS.body mix Tryz.func81 (by kernel_rfl) rfl (by kernel_rfl) (by simp) ?_
  simp [ha, hb]
  refine TS.callW k (Dws.self (by simp)) ?_
  simp
/-- the first one for which it is so, of a row of rows -/
theorem S_indexRw (H : List HO) (r n : Nat) (f : FuncId) (caps : List AV) (l : List (List Val)) (q : List Val → Bool) (hn : l.length = n) (hr : H[r]? = some (.row n 1 (rows' l))) (hl : n < 4611686018427387904) (hq : ∀ x, x ∈ l → TS Tryz.prog f (rowA x :: caps) H (pt (.bool (q x)) H)) : TS Tryz.prog 84 [.mv r n 1 0 n, .fn (.func f) [] caps] H (pt (.int .i64 (match l.findIdx? q with | some i => (i : Int) | none => -1)) H) := by
  subst hn
  refine TS.body mix Tryz.func84 (by kernel_rfl) rfl (by kernel_rfl) (by simp) ?_
  simp
  refine vc_loop (fun i : Nat => l.length - i) (fun i e H' => e 0 = .mv r l.length 1 0 l.length ∧ e 1 = .fn (.func f) [] caps ∧ e 7 = .int .i64 l.length ∧ e 8 = .int .i64 i ∧ i ≤ l.length ∧ (∀ j (h : j < l.length), j < i → q l[j] = false) ∧ H' = H) 0 ?_ ?_
  · simp
  rintro i e H' ⟨h0, h1, h7, h8, hi, hno, rfl⟩
  by_cases hlt : i < l.length
  · have ew := wrap_next hlt (by omega)
    have hqi := hq l[i] (List.getElem_mem hlt)
    simp [h0, h1, h7, h8, hlt, hr]
    refine TS.pt hqi ?_
    simp [h0, h1, h7, h8, hlt]
    refine condK_of (fun c => ?_) (fun c => ?_)
    · have : l.findIdx? q = some i := by
        rw [List.findIdx?_eq_some_iff_getElem]
        exact ⟨hlt, c, fun j hj => by rw [hno j (by omega) hj]; simp⟩
      rw [this]
      simp
    · simp [h0, h1, h7, h8, hlt]
      refine ⟨i + 1, by omega, ew, by omega, fun j h hj => ?_⟩
      rcases Nat.lt_or_ge j i with h2 | h2
      · exact hno j h h2
      · have : j = i := by omega
        subst this; exact c
  · have : i = l.length := by omega
    subst this
    have : l.findIdx? q = none := by
      rw [List.findIdx?_eq_none_iff]
      intro x hx
      obtain ⟨j, hj, rfl⟩ := List.getElem_of_mem hx
      exact hno j hj hj
    rw [this]
    simp [h0, h1, h7, h8]
def keepR (q : List Val → Bool) (l : List (List Val)) : List (List Val) := l.filter fun x => !q x
theorem keepR_none {q : List Val → Bool} {l : List (List Val)} (h : ∀ j (h : j < l.length), q l[j] = false) : keepR q l = l := by
  unfold keepR
  rw [List.filter_eq_self]
  intro x hx
  obtain ⟨j, hj, rfl⟩ := List.getElem_of_mem hx
  simp [h j hj]
theorem keepR_next {q : List Val → Bool} {l : List (List Val)} {i : Nat} (h : i < l.length) : keepR q (l.take (i + 1)) = keepR q (l.take i) ++ if q l[i] = true then [] else [l[i]] := by
  unfold keepR
  rw [take_next h, List.filter_append]
  by_cases hq : q l[i] = true <;> simp [hq]
/-- those for which it is so are taken out of a row of rows -/
theorem S_delRw (H : List HO) (r n : Nat) (f : FuncId) (caps : List AV) (l : List (List Val)) (q : List Val → Bool) (hn : l.length = n) (hr : H[r]? = some (.row n 1 (rows' l))) (hl : n < 4611686018427387904) (hq : ∀ cs x, x ∈ l → TS Tryz.prog f (rowA x :: caps) (H.set r (.row n 1 cs)) (pt (.bool (q x)) (H.set r (.row n 1 cs)))) : TS Tryz.prog 80 [.mv r n 1 0 n, .fn (.func f) [] caps] H (fun x H' => ∃ cs, x = .mv r n 1 0 (keepR q l).length ∧ H' = H.set r (.row n 1 cs) ∧ cs.length = n ∧ cs.take (keepR q l).length = rows' (keepR q l)) := by
  subst hn
  have hrl := (List.getElem?_eq_some_iff.1 hr).1
  have hset : H.set r (.row l.length 1 (rows' l)) = H := set_self' hr
  have hix := S_indexRw H r l.length f caps l q rfl hr hl (fun x hx => by have := hq (rows' l) x hx; rwa [hset] at this)
  refine TS.body mix Tryz.func80 (by kernel_rfl) rfl (by kernel_rfl) (by simp) ?_
  simp
  refine TS.pt hix ?_
  cases hf : l.findIdx? q with
  | none =>
    rw [List.findIdx?_eq_none_iff] at hf
    have hk : keepR q l = l := keepR_none fun j hj => hf _ (List.getElem_mem hj)
    simp
    refine ⟨by rw [hk], rows' l, hset.symm, by simp, ?_⟩
    rw [hk]
    simp
  | some j0 =>
    obtain ⟨g1, g2, g3⟩ := List.findIdx?_eq_some_iff_getElem.1 hf
    have ew0 : IntKind.i64.wrap ((j0 : Int) + 1) = ((j0 + 1 : Nat) : Int) := wrap_next g1 (by omega)
    have hk0 : keepR q (l.take (j0 + 1)) = l.take j0 := by
      rw [keepR_next g1, if_pos g2, List.append_nil]
      exact keepR_none fun j hj => by
        rw [List.length_take] at hj
        rw [List.getElem_take]
        simpa using g3 j (by omega)
    have hneg : ¬ ((j0 : Int) = -1) := by omega
    simp [hneg]
    refine vc_loop (fun i : Nat => l.length - i) (fun i e H' => ∃ D R : List (List Val), e 0 = .mv r l.length 1 0 l.length ∧ e 1 = .fn (.func f) [] caps ∧ e 5 = .int .i64 D.length ∧ e 6 = .int .i64 i ∧ i ≤ l.length ∧ D.length < i ∧ D = keepR q (l.take i) ∧ R = D ++ l.drop D.length ∧ H' = H.set r (.row l.length 1 (rows' R))) (j0 + 1) ?_ ?_
    · have hlt0 : (l.take j0).length = j0 := by rw [List.length_take]; omega
      refine ⟨l.take j0, l, ?_⟩
      simp [hk0, hlt0, ew0]
      exact ⟨by omega, hset.symm⟩
    rintro i e H' ⟨D, R, h0, h1, h5, h6, hi, hki, hD, hR, rfl⟩
    have hRl : R.length = l.length := by rw [hR, List.length_append, List.length_drop]; omega
    by_cases hlt : i < l.length
    · have ew := wrap_next hlt (by omega)
      have hqi := hq (rows' R) l[i] (List.getElem_mem hlt)
      have hnx := keepR_next (q := q) hlt
      rw [← hD] at hnx
      have hil : i < R.length := by omega
      have hRi : R[i] = l[i] := by
        subst hR
        rw [List.getElem_append_right (by omega), List.getElem_drop]
        congr 1
        omega
      have ewD : IntKind.i64.wrap ((D.length : Int) + 1) = ((D.length + 1 : Nat) : Int) := wrap_next hki (by omega)
      simp [h0, h1, h5, h6, hlt, hrl, hil, hRi, hRl]
      refine TS.pt hqi ?_
      cases hqv : q l[i] with
      | true =>
        rw [hqv, if_pos rfl, List.append_nil] at hnx
        simp [h0, h1, h5, h6, hlt, hrl, hil, hRi, hRl]
        exact ⟨i + 1, by omega, D, rfl, ew, by omega, by omega, hnx.symm, by rw [hR]⟩
      | false =>
        rw [hqv] at hnx
        simp at hnx
        simp [h0, h1, h5, h6, hlt, hrl, hil, hRi, hRl]
        have e1 : R.take D.length = D := by rw [hR, List.take_left']; rfl
        have e2 : R.drop (D.length + 1) = l.drop (D.length + 1) := by rw [hR, ← List.drop_drop, List.drop_left, List.drop_drop]
        refine ⟨by omega, by omega, i + 1, by omega, D ++ [l[i]], by simpa using ewD, ew, by omega, by simp; omega, hnx.symm, ?_⟩
        rw [e1, e2]
        simp
    · have hil : i = l.length := by omega
      subst hil
      rw [List.take_length] at hD
      simp [h0, h1, h5, h6, hrl, hRl]
      have e1 : R.take D.length = D := by rw [hR, List.take_left']; rfl
      have e3 : (repeatA [AV.sl .exact []] (l.length - D.length)).length = l.length - D.length := by rw [repeatA_len]; simp
      refine ⟨by omega, by rw [hD], _, rfl, ?_, ?_⟩
      · simp [e1, e3, hRl]
        omega
      · rw [e1, ← hD, List.take_left']
        simp
def OJM (r : Rel) (i : Nat) (K : List HO) (H : List HO) : Prop := ∃ b c1 x L, c1.length = 2 ∧ H = K ++ (.box b :: .box c1 :: .box [.sl .no (ints' r.cols), x] :: L) ∧ ((i = 0 ∧ L = [] ∧ (x = .sl .nil [] ∨ x = .sl .exact [])) ∨ (0 < i ∧ x = .mv (K.length + 3) i 1 0 i ∧ L = [.row i 1 (rows' (r.rows.take i))]))
theorem S_rdOwnM (K : List HO) (r : Rel) (hr : OkR r) : TS Tryz.prog 69 [r.av] K (fun y H => ∃ J, H = K ++ J ∧ ((r.rows = [] ∧ ∃ x, y = .agg [.sl .no (ints' r.cols), x] ∧ (x = .sl .nil [] ∨ x = .sl .exact [])) ∨ (0 < r.rows.length ∧ y = .agg [.sl .no (ints' r.cols), .mv (K.length + 3) r.rows.length 1 0 r.rows.length] ∧ J[3]? = some (.row r.rows.length 1 (rows' r.rows))))) := by
  have hnc := hr.nc
  have hnr := hr.nr
  have k1 := T_cloneI4 r.cols (by omega)
  refine TS.bodyM [22] mix Tryz.func69 (by kernel_rfl) rfl (by kernel_rfl) (by simp) ?_
  simp
  refine TS.callW k1 (Dws.self (by simp)) ?_
  simp
  refine vc_loop (fun i : Nat => r.rows.length - i) (fun i e H => e 2 = .ptr (K.length + 1) 0 ∧ e 3 = .ptr (K.length + 2) 0 ∧ e 11 = .sl .no (rows' r.rows) ∧ e 12 = .int .i64 r.rows.length ∧ e 13 = .int .i64 i ∧ i ≤ r.rows.length ∧ OJM r i K H) 0 ?_ ?_
  · simp
    exact ⟨_, _, _, _, rfl, rfl, .inl ⟨rfl, rfl, .inr rfl⟩⟩
  rintro i e H ⟨e2, e3, e11, e12, e13, hi, b, c1, x, L, hc1, rfl, hg⟩
  by_cases hlt : i < r.rows.length
  · have ew := wrap_next hlt (by omega)
    have hrow := hr.row _ (List.getElem_mem hlt)
    have k2 := T_cloneV4 r.rows[i] (by omega)
    have hnx : r.rows.take (i + 1) = r.rows.take i ++ [r.rows[i]] := take_next hlt
    have hml : (r.rows.take i).length = i := by simp; omega
    simp [e2, e3, e11, e12, e13, hlt]
    refine TDK.callW k2 (Dws.self (by simp)) ?_
    rcases hg with ⟨h0, rfl, zx⟩ | ⟨h0, rfl, rfl⟩
    · subst h0
      have ex := GrowX.ex0 zx
      simp [e2, e3, e11, e12, e13, hlt, ex]
      refine ⟨1, by omega, rfl, by omega, b, c1, _, _, hc1, rfl, .inr ⟨by omega, rfl, ?_⟩⟩
      rw [hnx]
      rfl
    · simp [e2, e3, e11, e12, e13, hlt]
      refine ⟨⟨by omega, by omega⟩, i + 1, by omega, ew, by omega, b, c1, _, _, hc1, rfl, .inr ⟨by omega, rfl, rfl⟩⟩
  · have : i = r.rows.length := by omega
    subst this
    match c1, hc1 with
    | [u0, u1], _ =>
    simp [e2, e3, e11, e12, e13]
    rcases hg with ⟨h0, rfl, zx⟩ | ⟨h0, rfl, rfl⟩
    · exact .inl ⟨List.eq_nil_of_length_eq_zero h0, zx⟩
    · refine .inr ⟨h0, rfl, ?_⟩
      rw [List.take_length]
      rfl
theorem S_indexNilR (H : List HO) (own : Own) (g : AV) : TS Tryz.prog 84 [.sl own [], g] H (pt (.int .i64 (-1)) H) := by
  refine TS.body mix Tryz.func84 (by kernel_rfl) rfl (by kernel_rfl) (by simp) ?_
  simp
  refine vc_loop (fun i : Nat => 0) (fun i e H' => e 7 = .int .i64 0 ∧ e 8 = .int .i64 0 ∧ H' = H) 0 ?_ ?_
  · simp
  rintro i e H' ⟨h7, h8, rfl⟩
  simp [h7, h8]
theorem S_delNilR (H : List HO) (own : Own) (g : AV) : TS Tryz.prog 80 [.sl own [], g] H (pt (.sl own []) H) := by
  refine TS.body mix Tryz.func80 (by kernel_rfl) rfl (by kernel_rfl) (by simp) ?_
  simp
  refine TS.pt (S_indexNilR H own g) ?_
  simp
theorem keepR_part (l : List Rel) (i : Nat) (r : List (List Val)) : keepR (fun x => !partG l i x) r = r.filter (partG l i) := by
  unfold keepR
  congr 1
  funext x
  simp
set_option maxRecDepth 8000 in
theorem T_rdFull (l : List Rel) (i : Nat) (h : OkL l) (hi : i < l.length) (hr : rightR l[i] = true) : T Tryz.prog 45 [.sl .no (rels' l), .int .i64 i] (fullG l i).av := by
  have hlen := h.len
  have hri := h.ok _ (List.getElem_mem hi)
  have hnr := hri.nr
  have k1 := T_sright l[i] hri
  rw [hr] at k1
  have hmem : ∀ x, x ∈ l[i].rows → x ∈ l[i].rows := fun _ h => h
  have hp := fun (H : List HO) (x : List Val) (hx : x ∈ l[i].rows) (a : H[0]? = _) (b : H[1]? = _) => S_rdFull1 H 0 1 l i x h hi hx a b
  unfold fullG
  rw [getD_ltR hi]
  have hneg : ¬ (i : Int) < 0 := by omega
  have hge : ¬ (l.length : Int) ≤ i := by omega
  have hge2 : ¬ l.length ≤ i := by omega
  obtain ⟨r, hrr⟩ : ∃ r, r = l[i] := ⟨_, rfl⟩
  rw [← hrr] at hnr hri k1 hp ⊢
  refine T.introF (TS.body mix Tryz.func45 (by kernel_rfl) rfl (by kernel_rfl) (by simp) ?_)
  simp [hneg, hge, hge2, hi, ← hrr]
  refine GTK.callW (fun _ => ⟨k1, Dws.self (by simp)⟩) ?_
  simp [hneg, hge, hge2, hi, ← hrr]
  refine TS.mono (S_rdOwnM _ r hri) ?_
  rintro y H ⟨J, rfl, ⟨h0, x, rfl, zx⟩ | ⟨h0, rfl, hJ⟩⟩
  · rw [h0, List.filter_nil]
    have hx : ∃ own, x = .sl own [] := by rcases zx with rfl | rfl <;> exact ⟨_, rfl⟩
    obtain ⟨own, rfl⟩ := hx
    simp
    refine TS.pt (S_delNilR _ own _) ?_
    simp
    exact .agg (.cons (Frz.slN (f := AV.int .i64)) (.cons (Frz.slN (f := rowA) (l := [])) .nil))
  · have hJl := (List.getElem?_eq_some_iff.1 hJ).1
    simp
    refine TS.mono (S_delRw _ 6 r.rows.length 81 [.ptr 0 0, .ptr 1 0] r.rows (fun x => !partG l i x) rfl (by simp only [List.getElem?_cons_succ]; rw [List.getElem?_append_left hJl, hJ]) (by omega) fun cs x hx => hp _ x hx (by simp) (by simp)) ?_
    rintro _ _ ⟨cs, rfl, rfl, hcl, hct⟩
    rw [keepR_part] at hct ⊢
    have hkl : (r.rows.filter (partG l i)).length ≤ r.rows.length := List.length_filter_le ..
    have hset : ∀ z : HO, (J ++ [z]).set 3 (.row r.rows.length 1 cs) = J.set 3 (.row r.rows.length 1 cs) ++ [z] := fun z => List.set_append_left _ _ hJl
    simp [hset]
    refine .agg (.cons (Frz.slN (f := AV.int .i64)) (.cons (.mv (n := r.rows.length) (sz := 1) (cs := cs) (ys := rows' (r.rows.filter (partG l i))) ?_ ?_ (by simp) fun y hy => by obtain ⟨a, _, rfl⟩ := mem_avs.1 hy; rfl) .nil))
    · simp only [List.getElem?_cons_succ]
      rw [List.getElem?_append_left (by simpa using hJl), List.getElem?_set_self hJl]
    · have e : (rows' (r.rows.filter (partG l i))).flatMap AV.cells = rows' (r.rows.filter (partG l i)) := avs_flat1 fun _ => rfl
      rw [Nat.zero_mul, List.drop_zero, Nat.mul_one, hct, e]
      exact FrzC.refl fun x hx => Selfs.flat (f := slA Val.av) (l := r.rows.filter (partG l i)) x (by rw [avs_flat_slA]; exact hx)
/-- .. and all that is held takes part -/
theorem T_rdReduced (l : List Rel) (h : OkL l) (hr : AllRight l) (hf : ∀ i, i < l.length → fullG l i = l.getD i zR) : T Tryz.prog 44 [.sl .no (rels' l)] (.bool true) := by
  have hlen := h.len
  refine T.intro (TS.body mix Tryz.func44 (by kernel_rfl) rfl (by kernel_rfl) (by simp) ?_)
  simp
  refine vc_loop (fun i : Nat => l.length - i) (fun i e H => e 0 = .sl .no (rels' l) ∧ e 5 = .sl .no (rels' l) ∧ e 6 = .int .i64 l.length ∧ e 7 = .int .i64 i ∧ i ≤ l.length) 0 ?_ ?_
  · simp
  rintro i e H ⟨e0, e5, e6, e7, hi⟩
  by_cases hlt : i < l.length
  · have ew := wrap_next hlt (by omega)
    have k1 := T_sright l[i] (h.ok _ (List.getElem_mem hlt))
    rw [hr _ (List.getElem_mem hlt)] at k1
    have k2 := T_rdFull l i h hlt (hr _ (List.getElem_mem hlt))
    rw [hf i hlt, getD_ltR hlt] at k2
    simp [e0, e5, e6, e7, hlt]
    refine TDK.callW k1 (Dws.self (by simp)) ?_
    simp [e0, e5, e6, e7, hlt]
    refine GTK.callW (fun _ => ⟨k2, Dws.self (by simp)⟩) ?_
    simp [e0, e5, e6, e7, hlt]
    exact ⟨i + 1, by omega, ew, by omega⟩
  · have : i = l.length := by omega
    subst this
    simp [e0, e5, e6, e7]
end Go.Proofs.YtjplcdeaedflpaaGreatDoor.PL
namespace Go.Proofs.YtjplcdeaedflpaaGreatDoor.PL
open Go.Proofs Go.RowKit
set_option linter.unusedVariables false
set_option linter.unusedSimpArgs false
set_option maxRecDepth 4000 in
theorem S_rupM (K : List HO) (k0 : Nat) (ps : List Int) (i : Int) (hr : K[k0]? = some (.row ps.length 1 (ints' ps))) (hl : ps.length ≤ 1000000) : TS Tryz.prog 71 [.mv k0 ps.length 1 0 ps.length, .int .i64 i] K (pt (.sl .no (ints' (upI ps i))) K) := by
  have hk0 := (List.getElem?_eq_some_iff.1 hr).1
  have hrJ : ∀ J : List HO, (K ++ J)[k0]? = some (.row ps.length 1 (ints' ps)) := fun J => by rw [List.getElem?_append_left hk0]; exact hr
  refine TS.dropF ?_ (Nat.le_refl _) fun _ h => .inl h
  refine TS.body mix Tryz.func71 (by kernel_rfl) rfl (by kernel_rfl) (by simp) ?_
  simp
  refine vc_loop (fun n : Nat => ps.length - n) (fun n e H => ∃ (A : List Int) (c : Int) (J : List HO), H = K ++ J ∧ e 0 = .mv k0 ps.length 1 0 ps.length ∧ e 1 = .int .i64 c ∧ e 6 = .int .i64 n ∧ n ≤ ps.length ∧ A.length = n ∧ GrowX K.length 1 J (e 5) (ints' A) ∧ upI ps i = A ++ upF ps (ps.length - n) c) 0 ?_ ?_
  · exact ⟨[], i, [], by simp, by simp, by simp, by simp, Nat.zero_le _, rfl, .inl ⟨rfl, by simp⟩, by simp [upI]⟩
  rintro n e H ⟨A, c, J, rfl, e0, e1, e6, hn, hA, hg, hu⟩
  have fin : ∀ (B : List Int) own, GrowX K.length 1 J (.sl own (ints' B)) (ints' B) → Frz (mask K.length (K ++ J)) (.sl own (ints' B)) (.sl .no (ints' B)) ∧ ∃ junk, K ++ J = K ++ junk := fun B own _ => ⟨Frz.slN, J, rfl⟩
  by_cases hlt : n < ps.length
  · have ew := wrap_next hlt (by omega)
    obtain ⟨m, hm⟩ : ∃ m, ps.length - n = m + 1 := ⟨ps.length - n - 1, by omega⟩
    have hm2 : ps.length - (n + 1) = m := by omega
    by_cases hc : 0 ≤ c ∧ c < ps.length
    · obtain ⟨k, rfl⟩ : ∃ k : Nat, c = k := ⟨c.toNat, by omega⟩
      have hk : k < ps.length := by omega
      rw [hm, upF, if_pos hc] at hu
      have hgk : ps.getD (k : Int).toNat 0 = ps[k] := by simp [hk]
      rw [hgk] at hu
      rcases hg with ⟨ge, hg⟩ | ⟨t, hg, ht⟩
      · rw [avs_eq_nil] at ge
        subst ge
        have hex : (e 5).ex = .sl .exact [] := GrowX.ex0 hg
        rcases hg with hg | hg
        all_goals
          simp [e0, e1, e6, hlt, hk, hg, hrJ]
          refine ⟨n + 1, by omega, ew, by omega, [(k : Int)], by simp at hA ⊢; omega, GrowX.first (f := AV.int .i64) (l := []) (a := (k : Int)) rfl (Nat.add_comm _ _), ?_⟩
          rw [hu, hm2]; rfl
      · have ht2 : (K ++ J)[t + K.length]? = some (.spare A.length 1) := by rw [Nat.add_comm, List.getElem?_append_right (by omega)]; simpa using ht
        simp [e0, e1, e6, hlt, hk, hg, hrJ, ht2]
        refine ⟨⟨by omega, by omega⟩, n + 1, by omega, ew, by omega, A ++ [(k : Int)], by simp [hA], GrowX.more (f := AV.int .i64) (l := A) (a := (k : Int)) (n := A.length + 1) ht rfl, ?_⟩
        rw [hu, hm2]; simp
    · rw [hm, upF, if_neg hc, List.append_nil] at hu
      rw [hu]
      by_cases h1 : 0 ≤ c
      · have h2 : ¬ c < ps.length := fun h => hc ⟨h1, h⟩
        simp [e0, e1, e6, hlt, h1, h2]
        obtain ⟨own, ho⟩ := hg.own
        rw [ho]
        exact Frz.slN
      · simp [e0, e1, e6, hlt, h1]
        obtain ⟨own, ho⟩ := hg.own
        rw [ho]
        exact Frz.slN
  · have : n = ps.length := by omega
    rw [this, Nat.sub_self, upF, List.append_nil] at hu
    rw [hu]
    simp [e0, e1, e6, hlt]
    obtain ⟨own, ho⟩ := hg.own
    rw [ho]
    exact Frz.slN
set_option maxRecDepth 4000 in
theorem T_rrooted (ps : List Int) (r : Int) (hl : ps.length ≤ 1000000) : T Tryz.prog 43 [.sl .no (ints' ps), .int .i64 r] (.sl .no (ints' (rerootI (heldI ps) r))) := by
  have kh := T_jrheld ps hl
  have hql := heldI_len ps
  have hrr : rerootI (heldI ps) r = rerF (heldI ps) (upI (heldI ps) r) (upI (heldI ps) r).length := rfl
  have hmem : ∀ x, x ∈ upI (heldI ps) r → 0 ≤ x ∧ x < (heldI ps).length := fun x hx => upF_mem hx
  have hul : (upI (heldI ps) r).length ≤ (heldI ps).length := upF_len _ _
  have hnil : heldI ps = [] → upI (heldI ps) r = [] := fun h => by rw [h]; rfl
  generalize rerootI (heldI ps) r = RR at *
  generalize heldI ps = q at *
  have ku := T_rup q r (by omega)
  have ku2 := fun H hr => S_rupM H 0 q r hr (by omega)
  generalize upI q r = l at *
  refine T.introF (TS.bodyM [11] mix Tryz.func43 (by kernel_rfl) rfl (by kernel_rfl) (by simp) ?_)
  simp
  refine TS.callW kh (Dws.self (by simp)) ?_
  by_cases h1 : q = []
  · have hl0 := hnil h1
    subst h1
    subst hl0
    rw [hrr]
    simp
    refine TS.callW ku (by repeat (first | exact .self rfl | constructor)) ?_
    simp
    refine vc_loop (fun i : Nat => 0) (fun i e H => e 5 = .sl .exact [] ∧ e 6 = .sl .no [] ∧ e 7 = .int .i64 0) 0 ?_ ?_
    · simp
    rintro i e H ⟨e5, e16, e17⟩
    simp [e5, e16, e17]
    exact Frz.slN (f := AV.int .i64) (l := [])
  · have hp : 0 < q.length := List.length_pos_iff.2 h1
    simp [h1, hp]
    refine ⟨by omega, ?_⟩
    refine TS.pt (ku2 _ (by simp)) ?_
    simp
    refine vc_loop (fun i : Nat => l.length - i) (fun i e H => e 5 = .mv 0 q.length 1 0 q.length ∧ e 6 = .sl .no (ints' l) ∧ e 7 = .int .i64 i ∧ i ≤ l.length ∧ H = [.row q.length 1 (ints' (rerF q l i))]) 0 ?_ ?_
    · simp [rerF]
    rintro i e H ⟨e5, e6, e7, hi, rfl⟩
    by_cases hlt : i < l.length
    · have ew := wrap_next hlt (by omega)
      have hm := hmem _ (List.getElem_mem hlt)
      obtain ⟨k, hk⟩ : ∃ k : Nat, l[i] = k := ⟨(l[i]).toNat, by omega⟩
      have hkq : k < q.length := by omega
      have hrl := rerF_len q l i
      have hnx : rerF q l (i + 1) = (rerF q l i).set k (if i = 0 then -1 else l.getD (i - 1) 0) := by
        rw [rerF]
        congr 1
        simp [hlt, hk]
      have hset : ∀ v : Int, (rerF q l i).take k ++ v :: (rerF q l i).drop (k + 1) = (rerF q l i).set k v := fun v => setIQ (by omega)
      by_cases h0 : i = 0
      · subst h0
        simp only [Int.natCast_zero] at e7
        rw [if_pos rfl] at hnx
        simp [e5, e6, e7, hlt, hk, hkq, hrl]
        refine ⟨by omega, 1, by omega, rfl, by omega, ?_⟩
        rw [hnx, hset]
      · have hi0 : ¬ (i : Int) = 0 := by omega
        obtain ⟨j, rfl⟩ : ∃ j, i = j + 1 := ⟨i - 1, by omega⟩
        have hj : j < l.length := by omega
        have ej : IntKind.i64.wrap (((j + 1 : Nat) : Int) - 1) = (j : Int) := by rw [wrap_i64 (by omega) (by omega)]; omega
        rw [if_neg h0] at hnx
        have hgj : l.getD (j + 1 - 1) 0 = l[j] := by simp [hj]
        rw [hgj] at hnx
        have hi1 : ¬ (j : Int) + 1 = 0 := by omega
        have hi2 : (0 : Int) < (j : Int) + 1 := by omega
        have hlt2 : (j : Int) + 1 < l.length := by omega
        have hj1 : j + 1 < l.length := hlt
        have ej2 : IntKind.i64.wrap (j : Int) = (j : Int) := wrap_i64 (by omega) (by omega)
        have ew2 : IntKind.i64.wrap ((j : Int) + 1 + 1) = ((j + 1 + 1 : Nat) : Int) := by rw [wrap_i64 (by omega) (by omega)]; omega
        simp [e5, e6, e7, hlt2, hj1, hk, hkq, hrl, hi1, hi2, ej2, hj]
        have hset2 : ∀ (L : List Int) (v w : Int), k < L.length → (L.take k ++ v :: L.drop (k + 1)).take k ++ w :: (L.take k ++ v :: L.drop (k + 1)).drop (k + 1) = L.set k w := fun L v w h => by
          have e1 : (L.take k).length = k := by rw [List.length_take]; omega
          rw [List.take_left' e1]
          rw [show L.take k ++ v :: L.drop (k + 1) = (L.take k ++ [v]) ++ L.drop (k + 1) by simp]
          rw [List.drop_left' (by simp [e1])]
          exact setIQ h
        refine ⟨by omega, by omega, by omega, by omega, j + 1 + 1, by omega, ew2, by omega, ?_⟩
        rw [hnx]
        rw [hset2 _ _ _ (by omega)]
    · have : i = l.length := by omega
      subst this
      rw [← hrr]
      simp [e5, e6, e7]
      exact Frz.mvA (f := AV.int .i64) (sz := 1) (l := RR) (by simp) (by rw [hrr, rerF_len])
end Go.Proofs.YtjplcdeaedflpaaGreatDoor.PL
namespace Go.Proofs.YtjplcdeaedflpaaGreatDoor.PL
open Go.Proofs Go.RowKit
set_option linter.unusedVariables false
set_option linter.unusedSimpArgs false
theorem fOf_at {q : List Int} {i : Nat} (h : fOf q i = none) (hi : i < q.length) : q[i] = -1 := by
  unfold fOf at h
  rw [List.getD_eq_getElem?_getD, List.getElem?_eq_getElem hi] at h
  by_cases hm : q[i] = -1
  · exact hm
  · simp [hm] at h
/-- along a join tree, all that is left takes part -/
theorem play_parts {l : List Rel} {ps : List Int} (hr : AllRight l) (htr : treeI ps = true) (hl : ps.length = l.length)
    (hw : ∀ v a b, vx (colsH l) a v → vx (colsH l) b v → Wk (nbr (fOf ps)) (fun k => vx (colsH l) k v) a b) {i : Nat} (hi : i < l.length) :
    fullJ (playJ l (progL ps)) i = (playJ l (progL ps)).getD i zR := by
  have hR := rer_ok htr (r := i) (by omega)
  generalize rerootI ps i = q at *
  have htq := hR.tree
  have hql : q.length = l.length := by rw [hR.len, hl]
  have hXl : (playJ l (progL ps)).length = q.length := by rw [playJ_len, hql]
  have hcols := fun i => (play_less (progL ps) hr).cols i
  have ho := tree_ord htq
  have hZ : 0 < (downN q).length := by rw [ho.len]; omega
  have h0 : (downN q)[0] = i := by
    have hlt := ho.lt (List.getElem_mem hZ)
    exact (hR.root _ hlt).1 (fOf_at (ho.root hZ) hlt)
  have hm : ∀ b p, b < q.length → fOf q b = some p → Match2 (playJ l (progL ps)) p b := by
    intro b p hb hf
    have hp := ho.parlt hb hf
    rcases (hR.same b p (by omega) (by omega)).1 (.inl hf) with h | h
    · exact (tree_played hr htr hl.symm (by omega) h).1
    · exact (tree_played hr htr hl.symm (by omega) h).2
  have hh : Hangs q.length (fOf q) (playJ l (progL ps)) := by
    refine hang_of (h := colsH l) (fun i => by rw [hcols, colsH_get]) (fun v a b ha hb => ?_) _
    have hx : ∀ x, vx (colsH l) x v → x < ps.length := fun x h => by have := vx_lt h; simp [colsH] at this; omega
    exact (hw v a b ha hb).congrX fun x y h1 h2 e => (hR.same x y (hx x h1) (hx y h2)).2 e
  have key : ∀ x, x ∈ ((playJ l (progL ps)).getD i zR).rows → partB (playJ l (progL ps)) i x = true := by
    intro x hx
    have := root_part ho hXl hm hh hZ (x := x) (by rw [h0]; exact hx)
    rwa [h0] at this
  generalize playJ l (progL ps) = X at *
  unfold fullJ
  rw [List.filter_eq_self.2 key]
theorem T_ReduceFull (l : List Rel) (r : Nat) (hr8 : r < 256) (hl : l.length < 4611686018427387904) (hi : ∀ r, r ∈ l → RelIn r) : T Tryz.prog 9 [.sl .no (rels' l), .int .u8 r] (.bool true) := by
  have kw := T_rwide24 l hl hi
  refine T.intro (TS.body mix Tryz.func9 (by kernel_rfl) rfl (by kernel_rfl) (by simp) ?_)
  simp
  refine TS.callW kw (Dws.self (by simp)) ?_
  cases hw : wideL l with
  | true =>
    simp
    refine GTK.callW (fun h => nomatch h) (ys := []) (r := .bool true) ?_
    simp
    refine live25 ?_
    simp
  | false =>
  obtain ⟨hok, hpr, hn⟩ := wideL_no hw hi
  have kr := T_rRight25 l hok
  simp
  refine GTK.callW (fun _ => ⟨kr, Dws.self (by simp)⟩) ?_
  cases hra : l.all rightR with
  | false =>
    simp
    refine live25 ?_
    simp
  | true =>
  have hr := all_right.1 hra
  by_cases h0 : l.length = 0
  · have e0 : l = [] := List.eq_nil_of_length_eq_zero h0
    subst e0
    simp
    refine live25 ?_
    simp
  have h0' : ¬ (l.length : Int) = 0 := by omega
  have h0'' : ¬ l = [] := fun e => h0 (by rw [e]; rfl)
  have hp : 0 < l.length := by omega
  have hlen := hok.len
  have kc := T_rCols25 l (by omega)
  have k1 := T_parents (colsH l) (colsH_ok hok)
  simp [h0, h0', h0'']
  refine TS.callW kc (Dws.self (by simp)) ?_
  simp
  cases ha : acyI (colsH l) with
  | false =>
    rw [ha] at k1
    simp at k1
    refine TS.callW k1 (Dws.self (by simp)) ?_
    simp
    refine live25 ?_
    simp
  | true =>
  rw [ha] at k1
  simp at k1
  refine TS.callW k1 (Dws.self (by simp)) ?_
  have hj := par_joins ha
  have hcn := joins_hang hj
  obtain ⟨j1, j2, j3⟩ := hj
  generalize parI (colsH l) = ps at *
  have hpl : ps.length = l.length := by simpa [colsH] using j1
  obtain ⟨m, hmm⟩ : ∃ m, m = r % l.length := ⟨_, rfl⟩
  have hmh : m < l.length := by rw [hmm]; exact Nat.mod_lt _ hp
  have hR := rer_ok j2 (r := m) (by omega)
  have k3 := T_rrooted ps m (by omega)
  have hheld : heldI ps = ps := by unfold heldI; rw [if_pos j2]
  rw [hheld] at k3
  have htq := hR.tree
  have hql : (rerootI ps m).length = l.length := by rw [hR.len, hpl]
  have hw : ∀ v a b, vx (colsH l) a v → vx (colsH l) b v → Wk (nbr (fOf (rerootI ps m))) (fun k => vx (colsH l) k v) a b := fun v a b ha hb => by
    have hx : ∀ x, vx (colsH l) x v → x < ps.length := fun x h => by have := vx_lt h; simp [colsH] at this; omega
    exact (hcn v a b ha hb).congrX fun x y h1 h2 e => (hR.same x y (hx x h1) (hx y h2)).2 e
  generalize rerootI ps m = q at *
  have hbl := belowL_len q
  have hul : (upL q).length = (belowL q).length := by unfold upL; rw [List.length_map]
  have hplen : (progL q).length ≤ 1000 := by unfold progL; simp; omega
  have k4 := T_rdProgram q (by omega)
  have k5 := T_rdPlay l (progL q) hok.okP (by omega)
  have hpR := playJ_right (progL q) hr
  have hpo := hok.play (prog := progL q)
  have hXl := playJ_len (progL q) l
  have hfu : ∀ i, i < l.length → fullJ (playJ l (progL q)) i = (playJ l (progL q)).getD i zR := fun i hi => play_parts hr htq hql hw hi
  have hfe : ∀ i, i < l.length → fullJ (playJ l (progL q)) i = fullJ l i := fun i hi => play_full (progL q) hr hi
  generalize playJ l (progL q) = X at *
  have k6 := T_rdReduced X hpo hpR fun i hi => by rw [fullG_right hpR, hfu i (by omega)]
  have w1 : IntKind.i64.wrap (r : Int) = r := wrap_i64 (by omega) (by omega)
  have w2 : (r : Int).tmod (l.length : Int) = (m : Int) := by rw [Int.tmod_eq_emod_of_nonneg (by omega), hmm]; simp
  have hXl' : (X.length : Int) = l.length := by omega
  simp [h0, h0', h0'', w1, w2]
  refine TS.callW k3 (Dws.self (by simp)) ?_
  simp
  refine TS.callW k4 (Dws.self (by simp)) ?_
  simp
  refine TS.callW k5 (Dws.self (by simp)) ?_
  simp [hXl, hXl']
  refine GTK.callW (fun _ => ⟨k6, Dws.self (by simp)⟩) ?_
  simp
  refine vc_loop (fun i : Nat => l.length - i) (fun i e H => e 0 = .sl .no (rels' l) ∧ e 8 = .sl .no (rels' X) ∧ e 9 = .int .i64 i ∧ i ≤ l.length) 0 ?_ ?_
  · simp
  rintro i e H ⟨e0, e8, e9, hi⟩
  by_cases hlt : i < l.length
  · have ew := wrap_next hlt (by omega)
    have hltX : i < X.length := by omega
    have f2 := T_rFull25 l i hok hlt (hr _ (List.getElem_mem _))
    have f3 := T_rdFull l i hok hlt (hr _ (List.getElem_mem _))
    have hfX : fullG l i = X[i] := by rw [fullG_right hr, ← hfe i hlt, hfu i hlt, getD_ltR hltX]
    have ho := fullG_ok hok i
    have f4 := T_rsame24 (fullG l i) (by have := ho.nc; omega) (by have := ho.nr; omega) fun x hx => by have := (ho.row x hx).1; omega
    rw [hfX] at f2 f3 f4
    simp [e0, e8, e9, hlt, hltX, hXl, hXl']
    refine TDK.callW f2 (Dws.self (by simp)) ?_
    simp [e0, e8, e9, hlt, hltX, hXl, hXl']
    refine TDK.callW f4 (Dws.self (by simp)) ?_
    simp [e0, e8, e9, hlt, hltX, hXl, hXl']
    refine GTK.callW (fun _ => ⟨f3, Dws.self (by simp)⟩) ?_
    simp [e0, e8, e9, hlt, hltX, hXl, hXl']
    refine GTK.callW (fun _ => ⟨f2, Dws.self (by simp)⟩) ?_
    simp [e0, e8, e9, hlt, hltX, hXl, hXl']
    refine GTK.callW (fun _ => ⟨f4, Dws.self (by simp)⟩) ?_
    simp [e0, e8, e9, hlt, hltX, hXl, hXl']
    exact ⟨i + 1, by omega, ew, by omega⟩
  · have : i = l.length := by omega
    subst this
    simp [e0, e8, e9, hXl, hXl']
    refine live25 ?_
    simp
theorem S_ReduceFull {xs : List AV} (h : ShA Tryz.prog [31, 5] xs) : T Tryz.prog 9 xs (.bool true) := by
  obtain ⟨y, r, rfl, h0, h⟩ := h.cons_of ag_31
  obtain ⟨y, r, rfl, h1, h⟩ := h.cons_of ag_5
  obtain rfl := h.nil_of
  obtain ⟨l, rfl, hi, hl⟩ := rels_in h0
  obtain ⟨v, rfl, hv⟩ := h1.int_of un_5
  have hv2 : 0 ≤ v ∧ v < 256 := by
    simp [Lit.wf, IntKind.min, IntKind.max, IntKind.signed, IntKind.bits] at hv
    omega
  obtain ⟨m, rfl⟩ : ∃ m : Nat, v = m := ⟨v.toNat, by omega⟩
  exact T_ReduceFull l m (by omega) hl hi
end Go.Proofs.YtjplcdeaedflpaaGreatDoor.PL
