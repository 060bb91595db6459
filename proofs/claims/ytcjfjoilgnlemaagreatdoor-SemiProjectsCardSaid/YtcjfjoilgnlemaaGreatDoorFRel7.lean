/- Relations: the example, and some vertices with each row once. -/
import Derived.Test.YtcjfjoilgnlemaaGreatDoorFRel6
namespace Go.Proofs.YtcjfjoilgnlemaaGreatDoor.PL
open Go.Proofs
set_option linter.unusedVariables false
set_option linter.unusedSimpArgs false
def exA : Rel := ⟨[1, 2], [[⟨1, 1, ByteArray.empty⟩, ⟨1, 5, ByteArray.empty⟩], [⟨0, 0, ByteArray.empty⟩, ⟨1, 6, ByteArray.empty⟩]]⟩
def exB : Rel := ⟨[1], [[⟨1, 1, ByteArray.empty⟩], [⟨0, 0, ByteArray.empty⟩]]⟩
theorem exA_ok : OkR exA := ⟨by decide, by decide, by
  intro l hl
  simp [exA] at hl
  rcases hl with rfl | rfl
  · refine ⟨by decide, fun v hv => ?_⟩
    simp at hv
    rcases hv with rfl | rfl <;> exact ⟨by decide, by decide, by decide⟩
  · refine ⟨by decide, fun v hv => ?_⟩
    simp at hv
    rcases hv with rfl | rfl <;> exact ⟨by decide, by decide, by decide⟩⟩
theorem exB_ok : OkR exB := ⟨by decide, by decide, by
  intro l hl
  simp [exB] at hl
  rcases hl with rfl | rfl
  · refine ⟨by decide, fun v hv => ?_⟩
    simp at hv
    subst hv
    exact ⟨by decide, by decide, by decide⟩
  · refine ⟨by decide, fun v hv => ?_⟩
    simp at hv
    subst hv
    exact ⟨by decide, by decide, by decide⟩⟩
theorem ex_semi : someR (heldR exA) (heldR exB) true = ⟨[1, 2], [[⟨1, 1, ByteArray.empty⟩, ⟨1, 5, ByteArray.empty⟩]]⟩ := by decide +kernel
theorem ex_anti : someR (heldR exA) (heldR exB) false = ⟨[1, 2], [[⟨0, 0, ByteArray.empty⟩, ⟨1, 6, ByteArray.empty⟩]]⟩ := by decide +kernel
theorem T_live24 : T Tryz.prog 8 [] (.bool true) := by
  have k1 := T_semijoin exA exB exA_ok exB_ok (by decide)
  have k2 := T_anti exA exB exA_ok exB_ok (by decide)
  rw [ex_semi] at k1
  rw [ex_anti] at k2
  have k3 := T_rrowSame [⟨1, 1, ByteArray.empty⟩, ⟨1, 5, ByteArray.empty⟩] [⟨1, 1, ByteArray.empty⟩, ⟨1, 5, ByteArray.empty⟩] (by show 2 < _; omega) (by show 2 < _; omega)
  have k4 := T_rrowSame [⟨0, 0, ByteArray.empty⟩, ⟨1, 6, ByteArray.empty⟩] [⟨0, 0, ByteArray.empty⟩, ⟨1, 6, ByteArray.empty⟩] (by show 2 < _; omega) (by show 2 < _; omega)
  refine T.intro (TS.bodyM [300003, 1030800, 1030801, 1030802, 1030803, 1030804, 1030805, 1030806, 1030807, 1030900, 1030901, 1030902, 1030903, 1030904, 1030905, 1030906, 1030907, 1030908] mix Tryz.func8 (by kernel_rfl) rfl (by kernel_rfl) (by simp) ?_)
  have dw : Dws [.agg [.sl .exact [.int .i64 1, .int .i64 2], .sl .exact [.sl .exact [Val.av ⟨1, 1, ByteArray.empty⟩, Val.av ⟨1, 5, ByteArray.empty⟩], .sl .exact [Val.av ⟨0, 0, ByteArray.empty⟩, Val.av ⟨1, 6, ByteArray.empty⟩]]], .agg [.sl .exact [.int .i64 1], .sl .exact [.sl .exact [Val.av ⟨1, 1, ByteArray.empty⟩], .sl .exact [Val.av ⟨0, 0, ByteArray.empty⟩]]]] [exA.av, exB.av] :=
    .cons (.agg (.cons (.sl (Dws.self (by simp))) (.cons (.sl (.cons (.sl (Dws.self (by simp))) (.cons (.sl (Dws.self (by simp))) .nil))) .nil))) (.cons (.agg (.cons (.sl (Dws.self (by simp))) (.cons (.sl (.cons (.sl (Dws.self (by simp))) (.cons (.sl (Dws.self (by simp))) .nil))) .nil))) .nil)
  simp
  refine TDK.callW k1 dw ?_
  simp
  refine TDK.callW k2 dw ?_
  simp
  refine GTK.callW (fun _ => ⟨k3, .cons (.self (by simp)) (.cons (.sl (Dws.self (by simp))) .nil)⟩) ?_
  simp
  refine GTK.callW (fun _ => ⟨k4, .cons (.self (by simp)) (.cons (.sl (Dws.self (by simp))) .nil)⟩) ?_
  simp
/-- some vertices, each row once -/
def addR (l : List (List Val)) (x : List Val) : List (List Val) := if x ∈ l then l else l ++ [x]
def nubR (l : List (List Val)) : List (List Val) := l.foldl addR []
theorem nubR_snoc (l : List (List Val)) (x : List Val) : nubR (l ++ [x]) = addR (nubR l) x := by unfold nubR; rw [List.foldl_append]; rfl
theorem snocI {α : Type} {p : List α → Prop} (h0 : p []) (h1 : ∀ l a, p l → p (l ++ [a])) (l : List α) : p l := by
  have : ∀ l : List α, p l.reverse := fun l => by
    induction l with
    | nil => exact h0
    | cons a l ih => rw [List.reverse_cons]; exact h1 _ _ ih
  have := this l.reverse
  rwa [List.reverse_reverse] at this
theorem nubR_len (l : List (List Val)) : (nubR l).length ≤ l.length := by
  refine snocI (p := fun l => (nubR l).length ≤ l.length) (by simp [nubR]) (fun l a ih => ?_) l
  rw [nubR_snoc]; unfold addR; split <;> simp <;> omega
theorem nubR_mem {l : List (List Val)} {x : List Val} : x ∈ nubR l ↔ x ∈ l := by
  refine snocI (p := fun l => x ∈ nubR l ↔ x ∈ l) (by simp [nubR]) (fun l a ih => ?_) l
  rw [nubR_snoc]
  unfold addR
  split
  · rename_i h
    rw [ih, List.mem_append, List.mem_singleton]
    constructor
    · exact .inl
    · rintro (h2 | rfl)
      · exact h2
      · exact ih.1 h
  · rw [List.mem_append, List.mem_append, ih]
def projC (r : Rel) (cs : List Int) : List Int := r.cols.filter fun c => decide (c ∈ cs)
def projR (r : Rel) (cs : List Int) : Rel := ⟨projC r cs, nubR (r.rows.map fun x => valsF r.cols x (projC r cs))⟩
theorem projC_len (r : Rel) (cs : List Int) : (projC r cs).length ≤ r.cols.length := List.length_filter_le ..
theorem proj_next {r : Rel} {cs : List Int} {i : Nat} (h : i < r.rows.length) : nubR ((r.rows.take (i + 1)).map fun x => valsF r.cols x cs) = addR (nubR ((r.rows.take i).map fun x => valsF r.cols x cs)) (valsF r.cols r.rows[i] cs) := by
  rw [take_next h, List.map_append, List.map_singleton, nubR_snoc]
theorem nubR_row {r : Rel} {cs : List Int} {k : Nat} {x : List Val} (h : x ∈ nubR ((r.rows.take k).map fun x => valsF r.cols x cs)) : x.length = cs.length := by
  rw [nubR_mem] at h
  obtain ⟨y, _, rfl⟩ := List.mem_map.1 h
  simp [valsF]
theorem S_proj1 (H : List HO) (k : Nat) (cs : List Int) (c : Int) (hk : H[k]? = some (.box [.sl .no (ints' cs)])) (hc : cs.length ≤ 1000) : TS Tryz.prog 32 [.int .i64 c, .ptr k 0] H (pt (.bool (decide (c ∈ cs))) H) := by
  have k1 := T_hasI cs c (by omega)
  refine TS.body mix Tryz.func32 (by kernel_rfl) rfl (by kernel_rfl) (by simp) ?_
  simp [hk]
  refine TS.callW k1 (Dws.self (by simp)) ?_
  simp
theorem S_proj2 (H : List HO) (k : Nat) (x y : List Val) (hk : H[k]? = some (.box [rowA y])) (hx : x.length ≤ 1000000) (hy : y.length ≤ 1000000) : TS Tryz.prog 35 [rowA x, .ptr k 0] H (pt (.bool (decide (x = y))) H) := by
  have k1 := T_rowSame x y (by omega) (by omega)
  refine TS.body mix Tryz.func35 (by kernel_rfl) rfl (by kernel_rfl) (by simp) ?_
  simp [hk]
  refine TS.callW k1 (Dws.self (by simp)) ?_
  simp
def SPj (r : Rel) (cs : List Int) (i : Nat) (H : List HO) : Prop := ∃ c4 J x, c4.length = 2 ∧ H = .box r.cs :: .box [.sl .no (ints' cs)] :: .box c4 :: .box [.sl .no (ints' (projC r cs)), x] :: J ∧ GrowX 4 1 J x (rows' (nubR ((r.rows.take i).map fun x => valsF r.cols x (projC r cs))))
theorem T_sproject (p : Rel) (cs : List Int) (hp : OkR p) (hc : cs.length ≤ 1000) : T Tryz.prog 10 [p.av, .sl .no (ints' cs)] (projR (heldR p) cs).av := by
  have k1 := T_sheld p hp
  have ha := heldR_ok hp
  obtain ⟨r, hrr⟩ : ∃ r, r = heldR p := ⟨_, rfl⟩
  rw [← hrr] at k1 ha ⊢
  have hnr := ha.nr
  have hnc := ha.nc
  have hpl := projC_len r cs
  have ks := S_keepI [.box r.cs, .box [.sl .no (ints' cs)], .box [.sl .exact [], .sl .exact []]] .no 32 [.ptr 1 0] r.cols (fun c => decide (c ∈ cs)) (by omega) fun c _ J => S_proj1 _ 1 cs c rfl hc
  refine T.introF (TS.body mix Tryz.func10 (by kernel_rfl) rfl (by kernel_rfl) (by simp) ?_)
  simp
  refine TS.callW k1 (Dws.self (by simp)) ?_
  simp
  refine TS.pt ks ?_
  simp
  refine vc_loop (fun i : Nat => r.rows.length - i) (fun i e H => e 2 = .ptr 0 0 ∧ e 4 = .ptr 2 0 ∧ e 5 = .ptr 3 0 ∧ e 17 = .sl .no (rows' r.rows) ∧ e 18 = .int .i64 r.rows.length ∧ e 19 = .int .i64 i ∧ i ≤ r.rows.length ∧ SPj r cs i H) 0 ?_ ?_
  · simp
    exact ⟨_, _, _, rfl, rfl, .inl ⟨rfl, .inr rfl⟩⟩
  rintro i e H ⟨e2, e4, e5, e17, e18, e19, hi, c4, J, x, hc4, rfl, hg⟩
  by_cases hlt : i < r.rows.length
  · have ew := wrap_next hlt (by omega)
    have hnx := proj_next (r := r) (cs := projC r cs) hlt
    obtain ⟨N, hN⟩ : ∃ N, N = nubR ((r.rows.take i).map fun x => valsF r.cols x (projC r cs)) := ⟨_, rfl⟩
    have hNr : ∀ x, x ∈ N → x.length = (projC r cs).length := fun x hx => nubR_row (by rw [← hN]; exact hx)
    have hNl : N.length ≤ i := by rw [hN]; refine Nat.le_trans (nubR_len _) ?_; simp; omega
    rw [← hN] at hg hnx
    have hrow := ha.row _ (List.getElem_mem hlt)
    obtain ⟨v, hv⟩ : ∃ v, v = valsF r.cols r.rows[i] (projC r cs) := ⟨_, rfl⟩
    have k2 := T_svalues r r.rows[i] (projC r cs) hnc hrow.1 (by omega)
    have hvl : v.length = (projC r cs).length := by rw [hv]; simp [valsF]
    rw [← hv] at k2 hnx
    obtain ⟨own, hx⟩ := hg.own
    have hany : (N.any fun y => decide (y = v)) = decide (v ∈ N) := by
      rw [Bool.eq_iff_iff, List.any_eq_true]
      simp
    simp [e2, e4, e5, e17, e18, e19, hlt]
    refine TS.callW k2 (Dws.self (by simp)) ?_
    simp [e2, e4, e5, e17, e18, e19, hlt, hx]
    have kc := S_anyRows (.box r.cs :: .box [.sl .no (ints' cs)] :: .box c4 :: .box [.sl .no (ints' (projC r cs)), .sl own (rows' N)] :: (J ++ [.box [.sl .no (vals' v)]])) own 35 [.ptr (J.length + 1 + 1 + 1 + 1) 0] N (fun y => decide (y = v)) (by omega) fun y hy => S_proj2 _ _ y v (by simp) (by have := hNr y hy; omega) (by omega)
    rw [hany] at kc
    refine TS.pt kc ?_
    by_cases hvN : v ∈ N
    · have hnx2 : nubR ((r.rows.take (i + 1)).map fun x => valsF r.cols x (projC r cs)) = N := by rw [hnx]; exact if_pos hvN
      simp [e2, e4, e5, e17, e18, e19, hlt, hvN]
      refine ⟨i + 1, by omega, ew, by omega, c4, _, _, hc4, rfl, ?_⟩
      rw [hnx2, ← hx]
      exact hg.app
    · have hnx2 : nubR ((r.rows.take (i + 1)).map fun x => valsF r.cols x (projC r cs)) = N ++ [v] := by rw [hnx]; exact if_neg hvN
      rcases hg with ⟨ge, zx⟩ | ⟨t, rfl, ht⟩
      · rw [avs_eq_nil] at ge
        subst ge
        have zx2 : own = .nil ∨ own = .exact := by rw [hx] at zx; rcases zx with h | h <;> cases h <;> simp
        rcases zx2 with rfl | rfl
        all_goals
          simp [e2, e4, e5, e17, e18, e19, hlt, hvN]
          refine ⟨i + 1, by omega, ew, by omega, c4, _, _, hc4, rfl, ?_⟩
          rw [hnx2]
          exact .inr ⟨J.length + 1, by simp [avs], by simp⟩
      · cases hx
        have hw := ht
        simp only [avs_length] at hw
        have htl := (List.getElem?_eq_some_iff.1 ht).1
        have hw' : ∀ Y : List HO, (J ++ Y)[t]? = some (.spare N.length 1) := fun Y => by rw [List.getElem?_append_left htl]; exact hw
        simp [e2, e4, e5, e17, e18, e19, hlt, hvN, hw']
        refine ⟨by omega, i + 1, by omega, ew, by omega, c4, _, _, hc4, rfl, ?_⟩
        rw [hnx2]
        exact .inr ⟨t, by simp [avs], by rw [List.getElem?_set_self (by simp; omega)]; simp⟩
  · have : i = r.rows.length := by omega
    subst this
    rw [List.take_length] at hg
    obtain ⟨own, rfl⟩ := hg.own
    match c4, hc4 with
    | [u0, u1], _ =>
    simp [e2, e4, e5, e17, e18, e19]
    exact .agg (.cons (Frz.slN (f := AV.int .i64)) (.cons (Frz.slN (f := fun r => AV.sl .no (vals' r))) .nil))
end Go.Proofs.YtcjfjoilgnlemaaGreatDoor.PL
