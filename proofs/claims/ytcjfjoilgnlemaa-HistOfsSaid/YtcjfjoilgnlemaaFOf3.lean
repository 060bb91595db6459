/- What is said of any table: by the program. -/
import Derived.Test.YtcjfjoilgnlemaaFOf2
namespace Go.Proofs.Ytcjfjoilgnlemaa.PL
open Go.Proofs
set_option linter.unusedVariables false
set_option linter.unusedSimpArgs false
abbrev mpV (l : List (Val × Int)) : List (AV × AV) := mpA Val.av (AV.int .i64) l
theorem lkp_app {κ β : Type} [DecidableEq κ] {k : κ} {x : β} : ∀ {l : List (κ × β)} {i : Nat}, lkp k l i = none → lkp k (l ++ [(k, x)]) i = some (i + l.length, x)
  | [], i, _ => by simp [lkp]
  | (a, v) :: l, i, h => by
    unfold lkp at h
    by_cases e : k = a
    · rw [if_pos e] at h; cases h
    · rw [if_neg e] at h
      have := lkp_app (x := x) h
      show (if k = a then some (i, v) else lkp k (l ++ [(k, x)]) (i + 1)) = _
      rw [if_neg e, this]
      simp
      omega
theorem mpV_snoc (l : List (Val × Int)) (v : Val) (n : Int) : mpV l ++ [(AV.agg [.int .i64 v.k, .int .i64 v.i, .str v.s], AV.int .i64 n)] = mpV (l ++ [(v, n)]) := by simp [mpA]
theorem mpV_len (l : List (Val × Int)) : (mpV l).length = l.length := by simp [mpA]
theorem mpV_mod (l : List (Val × Int)) (i : Nat) (n : Int) : (mpV l).modify i (fun e => (e.1, AV.int .i64 n)) = mpV (l.modify i fun e => (e.1, n)) := by
  apply List.ext_getElem?
  intro k
  simp only [mpA, List.getElem?_modify, List.getElem?_map]
  by_cases h : i = k
  · subst h
    cases l[i]? <;> simp
  · cases l[k]? <;> simp [h]
theorem mod_fst (l : List (Val × Int)) (i : Nat) (n : Int) : (l.modify i fun e => (e.1, n)).map Prod.fst = l.map Prod.fst := by
  apply List.ext_getElem?
  intro k
  simp only [List.getElem?_map, List.getElem?_modify]
  by_cases h : i = k
  · subst h
    cases l[i]? <;> simp
  · cases l[k]? <;> simp [h]
/-- columns done, by the program -/
def PO (t : Tab) (i : Nat) (H : List HO) : Prop := ∃ c1 es k J x o, c1.length = 2 ∧ H = .box t.cs :: .box c1 :: .box [.int .i64 t.rows.length, x] :: .mp es (some k) :: J ∧ Gq 4 3 J x (csts (staK t i)) o
/-- rows of one column done -/
def PR (t : Tab) (c j q : Nat) (x7 : AV) (H : List HO) : Prop := ∃ c1 l k J x o o7, c1.length = 2 ∧ H = .box t.cs :: .box c1 :: .box [.int .i64 t.rows.length, x] :: .mp (mpV l) (some k) :: J ∧ Gq 4 3 J x (csts (staK t c)) o ∧ J[q]? = some (.box [.int .i64 0, .int .i64 (nulV c (t.rows.take j)), .sl .exact []]) ∧ Gq 4 1 J x7 (ints' (numV c (t.rows.take j))) o7 ∧ l.map Prod.fst = nubV (nnV c (t.rows.take j))
set_option maxRecDepth 4000 in
set_option maxHeartbeats 4000000 in
theorem T_hof (t : Tab) (hr : t.rows.length ≤ 1000) (hrl : ∀ r, r ∈ t.rows → r.length < 4611686018427387904) (hc : t.cols.length ≤ 1000) : T Try.prog 24 [t.av] (staT t).av := by
  have kn := T_null
  refine T.introF (TS.bodyM [100017, 1170401, 1170601, 1170602] mix Try.func24 (by kernel_rfl) rfl (by kernel_rfl) (by simp) ?_)
  simp
  refine vc_loop (fun i : Nat => t.cols.length - i) (fun i e H => e 1 = .ptr 0 0 ∧ e 2 = .ptr 1 0 ∧ e 3 = .ptr 2 0 ∧ e 4 = .map 3 ∧ e 18 = .int .i64 t.cols.length ∧ e 19 = .int .i64 i ∧ i ≤ t.cols.length ∧ PO t i H) 0 ?_ ?_
  · simp
    exact ⟨_, [], 0, [], _, none, rfl, rfl, by simp [Gq, staK]⟩
  rintro i e H ⟨e1, e2, e3, e4, e18, e19, hi, c1, es, k, J, x, o, hc1, rfl, hg⟩
  by_cases hlt : i < t.cols.length
  · have ew := wrap_next hlt (by omega)
    have hnx := staK_next t i
    have hkl := staK_len t i
    simp [e1, e2, e3, e4, e18, e19, hlt]
    refine vc_loop (fun j : Nat => t.rows.length - j) (fun j e H => e 1 = .ptr 0 0 ∧ e 2 = .ptr 1 0 ∧ e 3 = .ptr 2 0 ∧ e 4 = .map 3 ∧ e 5 = .int .i64 i ∧ e 6 = .ptr (J.length + 4) 0 ∧ e 18 = .int .i64 t.cols.length ∧ e 19 = .int .i64 i ∧ e 24 = .sl .no (rows' t.rows) ∧ e 25 = .int .i64 t.rows.length ∧ e 26 = .int .i64 j ∧ j ≤ t.rows.length ∧ PR t i j J.length (e 7) H) 0 ?_ ?_
    · simp [e1, e2, e3, e4, e18, e19]
      refine ⟨c1, [], k + es.length, J ++ [HO.box [.int .i64 0, .int .i64 0, .sl .exact []]], x, o, none, hc1, rfl, hg.app _, ?_, ?_, ?_⟩
      · simp [nulV]
      · simp [Gq, numV, nnV]
      · simp [nnV, nubV]
    clear e1 e2 e3 e4 e18 e19 e
    rintro j e H ⟨e1, e2, e3, e4, e5, e6, e18, e19, e24, e25, e26, hj, c2, l, k2, J2, x2, o2, o7, hc2, rfl, g3, gq, g7, hkeys⟩
    by_cases hjt : j < t.rows.length
    · have ew2 := wrap_next hjt (by omega)
      have hri := hrl _ (List.getElem_mem hjt)
      have n1 := nulV_next (c := i) hjt
      have n2 := nnV_next (c := i) hjt
      have n3 := numV_next (c := i) hjt
      have hnl := nnV_len i (t.rows.take j)
      have hml := numV_len i (t.rows.take j)
      rw [List.length_take] at hnl hml
      obtain ⟨v, hv⟩ : ∃ v, v = vAt i t.rows[j] := ⟨_, rfl⟩
      rw [← hv] at n1 n2 n3
      have wn : IntKind.i64.wrap ((nulV i (t.rows.take j) : Int) + 1) = ((nulV i (t.rows.take j) + 1 : Nat) : Int) := wrap_next (n := 100000) (by omega) (by omega)
      have hql := (List.getElem?_eq_some_iff.1 gq).1
      have d3 : o2 ≠ some J.length := by rintro rfl; obtain ⟨_, hw⟩ := g3; rw [gq] at hw; cases hw
      have d7 : o7 ≠ some J.length := by rintro rfl; obtain ⟨_, hw⟩ := g7; rw [gq] at hw; cases hw
      have gq' : ∀ Y : List HO, (J2 ++ Y)[J.length]? = some (.box [.int .i64 0, .int .i64 (nulV i (t.rows.take j)), .sl .exact []]) := fun Y => getElem?_app gq
      simp [e1, e2, e3, e4, e5, e6, e18, e19, e24, e25, e26, hjt]
      refine TS.callW kn (Dws.self (by simp)) ?_
      by_cases hcl : i < (t.rows[j]).length
      · have hv' : v = (t.rows[j])[i] := by rw [hv]; unfold vAt; rw [dif_pos hcl]
        simp [e1, e2, e3, e4, e5, e6, e18, e19, e24, e25, e26, hjt, hcl]
        rw [← hv']
        refine TS.callW (T_isNull v) (Dws.self (by simp)) ?_
        by_cases h0 : v.k = 0
        · simp [e1, e2, e3, e4, e5, e6, e18, e19, e24, e25, e26, hjt, hcl, h0, gq']
          rw [if_pos h0] at n1 n2
          rw [if_neg (by omega), List.append_nil] at n3
          rw [List.append_nil] at n2
          refine ⟨j + 1, by omega, ew2, by omega, c2, l, k2, _, x2, o2, o7, hc2, rfl, (g3.app _).set d3 _, ?_, ?_, ?_⟩
          · rw [List.getElem?_set_self (by simp; omega), wn, n1]
          · rw [n3]; exact (g7.app _).set d7 _
          · rw [n2]; exact hkeys
        · rw [if_neg h0] at n1 n2
          have hkT : keysT Try.prog 51 (.agg [.int .i64 v.k, .int .i64 v.i, .str v.s]) (mpV l) = True := eq_true (keys_val v l)
          have hll : l.length = (nubV (nnV i (t.rows.take j))).length := by rw [← hkeys, List.length_map]
          have hul := nubV_len (nnV i (t.rows.take j))
          cases hlk : lkp v l 0 with
          | none =>
            have hfk : findK (.agg [.int .i64 v.k, .int .i64 v.i, .str v.s]) (mpV l) 0 = none := by
              have := findK_mpA (kf := Val.av) (g := AV.int .i64) (k := v) (l := l) (i := 0)
              rw [hlk] at this
              exact this
            simp [e1, e2, e3, e4, e5, e6, e18, e19, e24, e25, e26, hjt, hcl, h0, gq', hkT, hfk]
            obtain ⟨l2, hl2⟩ : ∃ l2, l2 = l ++ [(v, (1 : Int))] := ⟨_, rfl⟩
            have hmod : (mpV l ++ [(AV.agg [.int .i64 v.k, .int .i64 v.i, .str v.s], AV.int .i64 0)]).modify (((k2 : Int) + ((mpV l).length : Int)).toNat - k2) (fun e => (e.1, AV.int .i64 1)) = mpV l2 := by
              have hix : ((k2 : Int) + ((mpV l).length : Int)).toNat - k2 = l.length := by rw [mpV_len]; omega
              rw [hix, mpV_snoc, mpV_mod, hl2]
              congr 1
              apply List.ext_getElem?
              intro m
              rw [List.getElem?_modify]
              by_cases hm : l.length = m
              · subst hm; simp
              · simp only [hm, if_false]
                rcases Nat.lt_or_ge m l.length with h | h
                · rw [List.getElem?_append_left h, List.getElem?_append_left h]; simp
                · rw [List.getElem?_eq_none (by simp; omega), List.getElem?_eq_none (by simp; omega)]; rfl
            have hf2 : findK (AV.agg [.int .i64 v.k, .int .i64 v.i, .str v.s]) (mpV (l ++ [(v, (0 : Int))])) 0 = some (l.length, .int .i64 0) := by
              have := findK_mpA (kf := Val.av) (g := AV.int .i64) (k := v) (l := l ++ [(v, (0 : Int))]) (i := 0)
              rw [lkp_app hlk, Nat.zero_add] at this
              exact this
            have hnot : v ∉ nubV (nnV i (t.rows.take j)) := by rw [← hkeys]; exact lkp_none_iff.1 hlk
            have hk2 : l2.map Prod.fst = nubV (nnV i (t.rows.take (j + 1))) := by
              rw [n2, nubV_snoc, hl2, List.map_append, hkeys]
              unfold addV
              rw [if_neg hnot]
              rfl
            refine ⟨⟨?_, ?_⟩, ⟨by omega, by omega⟩, ?_⟩
            · rw [mpV_snoc]; exact keys_val v _
            · rw [mpV_snoc, hf2]
            rw [hmod]
            refine condK_of (fun h1 => ?_) (fun h1 => ?_)
            · simp at h1
              rw [if_pos h1] at n3
              cases o7 with
              | none =>
                obtain ⟨z0, zx⟩ := g7
                rw [avs_eq_nil] at z0
                rw [z0, List.nil_append] at n3
                have ex : (e 7).ex = .sl .exact [] := by rcases zx with h | h <;> rw [h] <;> rfl
                simp [e1, e2, e3, e4, e5, e6, e18, e19, e24, e25, e26, hjt, hcl, h0, gq', ex]
                refine ⟨j + 1, by omega, ew2, by omega, c2, l2, k2, _, x2, o2, some (J2.length + 1), hc2, rfl, g3.app _, ?_, ?_, hk2⟩
                · rw [gq', n1]; rfl
                · rw [n3]; exact ⟨rfl, by simp⟩
              | some u =>
                obtain ⟨e7, hu⟩ := g7
                have hul2 := (List.getElem?_eq_some_iff.1 hu).1
                simp only [avs_length] at hu
                have hu' : ∀ Y : List HO, (J2 ++ Y)[u]? = some (.spare (numV i (t.rows.take j)).length 1) := fun Y => getElem?_app hu
                have d3' := Gq.ne g3 (show Gq 4 1 J2 (.sl (.tok (u + 4)) (ints' (numV i (t.rows.take j)))) (ints' (numV i (t.rows.take j))) (some u) from ⟨rfl, by simpa using hu⟩) (by omega) u rfl
                have huq : u ≠ J.length := fun h => d7 (by rw [h])
                simp [e1, e2, e3, e4, e5, e6, e7, e18, e19, e24, e25, e26, hjt, hcl, h0, gq', hu']
                refine ⟨⟨by omega, by omega⟩, j + 1, by omega, ew2, by omega, c2, l2, k2, _, x2, o2, some u, hc2, rfl, (g3.app _).set d3' _, ?_, ?_, hk2⟩
                · rw [List.getElem?_set_ne huq, gq', n1]; rfl
                · rw [n3]; exact ⟨by simp, by rw [List.getElem?_set_self (by simp; omega)]; simp⟩
            · simp at h1
              rw [if_neg h1, List.append_nil] at n3
              simp [e1, e2, e3, e4, e5, e6, e18, e19, e24, e25, e26, hjt, hcl, h0, gq']
              refine ⟨j + 1, by omega, ew2, by omega, c2, l2, k2, _, x2, o2, o7, hc2, rfl, g3.app _, ?_, ?_, hk2⟩
              · rw [gq', n1]; rfl
              · rw [n3]; exact g7.app _
          | some p =>
            obtain ⟨pi, pn⟩ := p
            have hfk : findK (.agg [.int .i64 v.k, .int .i64 v.i, .str v.s]) (mpV l) 0 = some (pi, .int .i64 pn) := by
              have := findK_mpA (kf := Val.av) (g := AV.int .i64) (k := v) (l := l) (i := 0)
              rw [hlk] at this
              exact this
            simp [e1, e2, e3, e4, e5, e6, e18, e19, e24, e25, e26, hjt, hcl, h0, gq', hkT, hfk]
            have hat := (lkp_at hlk).2
            rw [Nat.sub_zero] at hat
            have hpl := (List.getElem?_eq_some_iff.1 hat).1
            have hset : (mpV l).set pi (AV.agg [.int .i64 v.k, .int .i64 v.i, .str v.s], AV.int .i64 pn) = mpV l := by
              apply List.ext_getElem?
              intro m
              by_cases hm : pi = m
              · subst hm
                rw [List.getElem?_set_self (by rw [mpV_len]; exact hpl)]
                simp [mpA, hat]
              · rw [List.getElem?_set_ne hm]
            obtain ⟨l2, hl2⟩ : ∃ l2, l2 = l.modify pi fun e => (e.1, IntKind.i64.wrap (pn + 1)) := ⟨_, rfl⟩
            have hmod : (mpV l).modify (((k2 : Int) + (pi : Int)).toNat - k2) (fun e => (e.1, AV.int .i64 (IntKind.i64.wrap (pn + 1)))) = mpV l2 := by
              have hix : ((k2 : Int) + (pi : Int)).toNat - k2 = pi := by omega
              rw [hix, mpV_mod, hl2]
            have hin : v ∈ nubV (nnV i (t.rows.take j)) := by
              rw [← hkeys]
              exact List.mem_map.2 ⟨(v, pn), List.mem_of_getElem? hat, rfl⟩
            have hk2 : l2.map Prod.fst = nubV (nnV i (t.rows.take (j + 1))) := by
              rw [n2, nubV_snoc, hl2, mod_fst, hkeys]
              unfold addV
              rw [if_pos hin]
            refine ⟨⟨?_, ?_⟩, ⟨by omega, by rw [mpV_len]; exact hpl⟩, ?_⟩
            · rw [hset]; exact keys_val v _
            · rw [hset, hfk]
            rw [hset, hmod]
            refine condK_of (fun h1 => ?_) (fun h1 => ?_)
            · simp at h1
              rw [if_pos h1] at n3
              cases o7 with
              | none =>
                obtain ⟨z0, zx⟩ := g7
                rw [avs_eq_nil] at z0
                rw [z0, List.nil_append] at n3
                have ex : (e 7).ex = .sl .exact [] := by rcases zx with h | h <;> rw [h] <;> rfl
                simp [e1, e2, e3, e4, e5, e6, e18, e19, e24, e25, e26, hjt, hcl, h0, gq', ex]
                refine ⟨j + 1, by omega, ew2, by omega, c2, l2, k2, _, x2, o2, some (J2.length + 1), hc2, rfl, g3.app _, ?_, ?_, hk2⟩
                · rw [gq', n1]; rfl
                · rw [n3]; exact ⟨rfl, by simp⟩
              | some u =>
                obtain ⟨e7, hu⟩ := g7
                have hul2 := (List.getElem?_eq_some_iff.1 hu).1
                simp only [avs_length] at hu
                have hu' : ∀ Y : List HO, (J2 ++ Y)[u]? = some (.spare (numV i (t.rows.take j)).length 1) := fun Y => getElem?_app hu
                have d3' := Gq.ne g3 (show Gq 4 1 J2 (.sl (.tok (u + 4)) (ints' (numV i (t.rows.take j)))) (ints' (numV i (t.rows.take j))) (some u) from ⟨rfl, by simpa using hu⟩) (by omega) u rfl
                have huq : u ≠ J.length := fun h => d7 (by rw [h])
                simp [e1, e2, e3, e4, e5, e6, e7, e18, e19, e24, e25, e26, hjt, hcl, h0, gq', hu']
                refine ⟨⟨by omega, by omega⟩, j + 1, by omega, ew2, by omega, c2, l2, k2, _, x2, o2, some u, hc2, rfl, (g3.app _).set d3' _, ?_, ?_, hk2⟩
                · rw [List.getElem?_set_ne huq, gq', n1]; rfl
                · rw [n3]; exact ⟨by simp, by rw [List.getElem?_set_self (by simp; omega)]; simp⟩
            · simp at h1
              rw [if_neg h1, List.append_nil] at n3
              simp [e1, e2, e3, e4, e5, e6, e18, e19, e24, e25, e26, hjt, hcl, h0, gq']
              refine ⟨j + 1, by omega, ew2, by omega, c2, l2, k2, _, x2, o2, o7, hc2, rfl, g3.app _, ?_, ?_, hk2⟩
              · rw [gq', n1]; rfl
              · rw [n3]; exact g7.app _
      · have hv' : v = zW := by rw [hv]; unfold vAt; rw [dif_neg hcl]
        have h0 : v.k = 0 := by rw [hv']; rfl
        have kz := T_isNull zW
        have hz : decide (zW.k = 0) = true := by decide
        rw [hz] at kz
        simp [e1, e2, e3, e4, e5, e6, e18, e19, e24, e25, e26, hjt, hcl]
        refine TS.callW kz (.cons (.agg (.cons (.self rfl) (.cons (.self rfl) (.cons (.self rfl) .nil)))) .nil) ?_
        simp [e1, e2, e3, e4, e5, e6, e18, e19, e24, e25, e26, hjt, hcl, gq']
        rw [if_pos h0] at n1 n2
        rw [if_neg (by omega), List.append_nil] at n3
        rw [List.append_nil] at n2
        refine ⟨j + 1, by omega, ew2, by omega, c2, l, k2, _, x2, o2, o7, hc2, rfl, (g3.app _).set d3 _, ?_, ?_, ?_⟩
        · rw [List.getElem?_set_self (by simp; omega), wn, n1]
        · rw [n3]; exact (g7.app _).set d7 _
        · rw [n2]; exact hkeys
    · have : j = t.rows.length := by omega
      subst this
      rw [List.take_length] at gq g7 hkeys
      have hll : l.length = (nubV (nnV i t.rows)).length := by rw [← hkeys, List.length_map]
      have hql := (List.getElem?_eq_some_iff.1 gq).1
      have d3 : o2 ≠ some J.length := by rintro rfl; obtain ⟨_, hw⟩ := g3; rw [gq] at hw; cases hw
      have gqs : ∀ R : HO, (J2.set J.length R)[J.length]? = some R := fun R => List.getElem?_set_self hql
      obtain ⟨own7, ho7⟩ := g7.own
      have hml := numV_len i t.rows
      have km := T_marks (numV i t.rows) (by omega)
      have hcol : colT t i = ⟨(l.length : Nat), (nulV i t.rows : Nat), marksF (numV i t.rows)⟩ := by rw [hll]; rfl
      simp [e1, e2, e3, e4, e5, e6, e18, e19, e24, e25, e26, gq, gqs, ho7, mpV_len]
      refine lenK_map rfl rfl Try.underlying107 ?_
      rw [mpV_len]
      simp [e1, e2, e3, e4, e5, e6, e18, e19, e24, e25, e26, gq, gqs, ho7, mpV_len]
      refine TS.callW km (.cons (.sl (Dws.self (by simp))) .nil) ?_
      cases o2 with
      | none =>
        obtain ⟨z0, zx⟩ := g3
        rw [avs_eq_nil] at z0
        rw [z0, List.nil_append] at hnx
        have ex : x2.ex = .sl .exact [] := by rcases zx with h | h <;> rw [h] <;> rfl
        simp [e1, e2, e3, e4, e5, e6, e18, e19, e24, e25, e26, gq, gqs, ho7, ex]
        refine ⟨i + 1, by omega, ew, by omega, c2, _, k2, _, _, some J2.length, hc2, rfl, ?_⟩
        rw [hnx, hcol]
        exact ⟨by simp, by simp⟩
      | some w =>
        obtain ⟨rfl, hw⟩ := g3
        have hwl := (List.getElem?_eq_some_iff.1 hw).1
        simp only [avs_length] at hw
        have hwq : J.length ≠ w := fun h => d3 (by rw [h])
        have hws : ∀ R : HO, (J2.set J.length R)[w]? = some (.spare (staK t i).length 3) := fun R => by rw [List.getElem?_set_ne hwq]; exact hw
        simp [e1, e2, e3, e4, e5, e6, e18, e19, e24, e25, e26, gq, gqs, ho7, hws]
        refine ⟨⟨by omega, by omega⟩, i + 1, by omega, ew, by omega, c2, _, k2, _, _, some w, hc2, rfl, ?_⟩
        rw [hnx, hcol]
        exact ⟨by simp [avs], by rw [List.getElem?_set_self (by simp; omega)]; simp⟩
  · have : i = t.cols.length := by omega
    subst this
    obtain ⟨own, rfl⟩ := hg.own
    match c1, hc1 with
    | [u0, u1], _ =>
    simp [e1, e2, e3, e4, e18, e19]
    exact .agg (.cons (Frz.of_cl2 (by simp [staT])) (.cons (Frz.slN (f := CSt.av)) .nil))
end Go.Proofs.Ytcjfjoilgnlemaa.PL
