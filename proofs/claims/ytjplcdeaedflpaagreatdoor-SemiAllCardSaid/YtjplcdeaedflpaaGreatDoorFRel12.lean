/- Relations: any two; all together, in whatever order. -/
import Derived.Test.YtjplcdeaedflpaaGreatDoorFRel11
import Derived.Test.YtjplcdeaedflpaaGreatDoorFRel7
namespace Go.Proofs.YtjplcdeaedflpaaGreatDoor.PL
open Go.Proofs
set_option linter.unusedVariables false
set_option linter.unusedSimpArgs false
theorem T_count24b (l : List (List Val)) (r : List Val) (hl : l.length < 4611686018427387904) (hr : ∀ x, x ∈ l → x.length < 4611686018427387904) (hr2 : r.length < 4611686018427387904) : T Tryz.prog 103 [.sl .no (rows' l), rowA r] (.int .i64 (l.count r : Nat)) := by
  refine T.intro (TS.body mix Tryz.func103 (by kernel_rfl) rfl (by kernel_rfl) (by simp) ?_)
  simp
  refine vc_loop (fun i : Nat => l.length - i) (fun i e H => e 0 = .sl .no (rows' l) ∧ e 1 = rowA r ∧ e 5 = .int .i64 ((l.take i).count r : Nat) ∧ e 6 = .int .i64 i ∧ i ≤ l.length) 0 ?_ ?_
  · simp
  rintro i e H ⟨h0, h1, h5, h6, hi⟩
  by_cases hlt : i < l.length
  · have ew := wrap_next hlt (by omega)
    have k := T_rrowSame l[i] r (hr _ (List.getElem_mem hlt)) hr2
    have hcl : (l.take i).count r ≤ i := Nat.le_trans List.count_le_length (by simp; omega)
    have hnx : (l.take (i + 1)).count r = (l.take i).count r + (if l[i] = r then 1 else 0) := by
      rw [take_next hlt, List.count_append, List.count_singleton]; simp
    simp [h0, h1, h5, h6, hlt]
    refine TS.callW k (Dws.self (by simp)) ?_
    by_cases hc : l[i] = r
    · rw [if_pos hc] at hnx
      have ew2 : IntKind.i64.wrap (((l.take i).count r : Int) + 1) = ((l.take (i + 1)).count r : Nat) := by rw [hnx, wrap_i64 (by omega) (by omega)]; omega
      simp [h0, h1, h5, h6, hlt, hc]
      exact ⟨i + 1, by omega, ew2, ew, by omega⟩
    · rw [if_neg hc] at hnx
      simp [h0, h1, h5, h6, hlt, hc]
      exact ⟨i + 1, by omega, by rw [hnx, Nat.add_zero], ew, by omega⟩
  · have : i = l.length := by omega
    subst this
    rw [List.take_length] at h5
    simp [h0, h1, h5, h6]
theorem T_sameBagP (a b : List (List Val)) (hp : a.Perm b) (ha : a.length < 4611686018427387904) (hra : ∀ x, x ∈ a → x.length < 4611686018427387904) : T Tryz.prog 65 [.sl .no (rows' a), .sl .no (rows' b)] (.bool true) := by
  have hl := hp.length_eq
  have hrb : ∀ x, x ∈ b → x.length < 4611686018427387904 := fun x hx => hra x (hp.mem_iff.2 hx)
  refine T.intro (TS.body mix Tryz.func65 (by kernel_rfl) rfl (by kernel_rfl) (by simp) ?_)
  simp [hl]
  refine vc_loop (fun i : Nat => a.length - i) (fun i e H => e 0 = .sl .no (rows' a) ∧ e 1 = .sl .no (rows' b) ∧ e 5 = .int .i64 i ∧ i ≤ a.length) 0 ?_ ?_
  · simp
  rintro i e H ⟨h0, h1, h5, hi⟩
  by_cases hlt : i < a.length
  · have ew := wrap_next hlt (by omega)
    have hri := hra _ (List.getElem_mem hlt)
    have k1 := T_count24b a a[i] ha hra hri
    have k2 := T_count24b b a[i] (by omega) hrb hri
    rw [← hp.count_eq] at k2
    simp [h0, h1, h5, hlt]
    refine TDK.callW k1 (Dws.self (by simp)) ?_
    simp [h0, h1, h5, hlt]
    refine TDK.callW k2 (Dws.self (by simp)) ?_
    simp [h0, h1, h5, hlt]
    exact ⟨i + 1, by omega, ew, by omega⟩
  · have : i = a.length := by omega
    subst this
    simp [h0, h1, h5]
theorem T_rbag24 (r s : Rel) (hc : r.cols = s.cols) (hp : r.rows.Perm s.rows) (hok : OkR r) : T Tryz.prog 23 [r.av, s.av] (.bool true) := by
  have hnc := hok.nc
  have hnr := hok.nr
  have k1 : T Tryz.prog 41 [.sl .no (ints' r.cols), .sl .no (ints' s.cols)] (.bool true) := by
    have := T_sameList21 r.cols s.cols (by omega)
    simpa [hc] using this
  have k2 := T_sameBagP r.rows s.rows hp (by omega) fun x hx => by have := (hok.row x hx).1; omega
  refine T.intro (TS.body mix Tryz.func23 (by kernel_rfl) rfl (by kernel_rfl) (by simp) ?_)
  simp
  refine TS.callW k1 (Dws.self (by simp)) ?_
  simp
  refine GTK.callW (fun _ => ⟨k2, Dws.self (by simp)⟩) ?_
  simp
/-- more than is asked of some -/
def wideF : Nat → Nat → List Rel → Bool
  | _, _, [] => false
  | n, i, r :: l => muchR r || (decide (2000 < n * (r.rows.length + 1)) || decide (10 ≤ i)) || wideF (n * (r.rows.length + 1)) (i + 1) l
def wideL (l : List Rel) : Bool := wideF 1 0 l
theorem wideF_no : ∀ {l : List Rel} {n i : Nat}, wideF n i l = false → (∀ r, r ∈ l → muchR r = false) ∧ (l ≠ [] → n * prodR l ≤ 2000 ∧ i + l.length ≤ 10)
  | [], n, i, h => ⟨fun r hr => (List.not_mem_nil hr).elim, fun h => absurd rfl h⟩
  | r :: l, n, i, h => by
    unfold wideF at h
    simp only [Bool.or_eq_false_iff, decide_eq_false_iff_not] at h
    obtain ⟨⟨h1, h2, h3⟩, h4⟩ := h
    obtain ⟨i1, i2⟩ := wideF_no h4
    refine ⟨fun x hx => ?_, fun _ => ?_⟩
    · rcases List.mem_cons.1 hx with rfl | hx
      · exact h1
      · exact i1 x hx
    · by_cases hl : l = []
      · subst hl
        refine ⟨?_, by simp; omega⟩
        show n * ((r.rows.length + 1) * 1) ≤ 2000
        rw [Nat.mul_one]; omega
      · obtain ⟨j1, j2⟩ := i2 hl
        refine ⟨?_, by rw [List.length_cons]; omega⟩
        show n * ((r.rows.length + 1) * prodR l) ≤ 2000
        rw [← Nat.mul_assoc]; exact j1
theorem wideL_no {l : List Rel} (h : wideL l = false) (hi : ∀ r, r ∈ l → RelIn r) : OkL l ∧ prodR l ≤ 2000 ∧ l.length ≤ 10 := by
  obtain ⟨h1, h2⟩ := wideF_no h
  have hk : ∀ r, r ∈ l → OkR r ∧ r.cols.length ≤ 20 ∧ r.rows.length ≤ 30 := fun r hr => muchR_ok (h1 r hr) (hi r hr)
  by_cases hl : l = []
  · subst hl
    exact ⟨⟨fun r hr => (List.not_mem_nil hr).elim, fun r hr => (List.not_mem_nil hr).elim, by simp, by simp [prodR]⟩, by simp [prodR], by simp⟩
  · obtain ⟨h3, h4⟩ := h2 hl
    rw [Nat.one_mul] at h3
    exact ⟨⟨fun r hr => (hk r hr).1, fun r hr => (hk r hr).2.1, by omega, by omega⟩, h3, by omega⟩
theorem wide_next {l : List Rel} {n i : Nat} (h : i < l.length) : wideF n i (l.drop i) = (muchR l[i] || (decide (2000 < n * (l[i].rows.length + 1)) || decide (10 ≤ i)) || wideF (n * (l[i].rows.length + 1)) (i + 1) (l.drop (i + 1))) := by
  rw [List.drop_eq_getElem_cons h]; rfl
theorem T_rwide24 (l : List Rel) (hl : l.length < 4611686018427387904) (hi : ∀ r, r ∈ l → RelIn r) : T Tryz.prog 20 [.sl .no (rels' l)] (.bool (wideL l)) := by
  obtain ⟨W, hW⟩ : ∃ W, W = wideL l := ⟨_, rfl⟩
  rw [← hW]
  refine T.intro (TS.body mix Tryz.func20 (by kernel_rfl) rfl (by kernel_rfl) (by simp) ?_)
  simp
  refine vc_loop (fun i : Nat => l.length - i) (fun i e H => e 0 = .sl .no (rels' l) ∧ e 4 = .int .i64 i ∧ i ≤ l.length ∧ ∃ n : Nat, e 3 = .int .i64 n ∧ n ≤ 2000 ∧ W = wideF n i (l.drop i)) 0 ?_ ?_
  · simp
    exact ⟨1, by simp, by omega, hW⟩
  clear hW
  rintro i e H ⟨e0, e4, hi2, n, e3, hn, hw⟩
  by_cases hlt : i < l.length
  · have ew := wrap_next hlt (by omega)
    have hr := hi _ (List.getElem_mem hlt)
    have k1 := T_rmuch24 l[i] hr.nc hr.nr fun x hx v hv => ((hr.row x hx).2 v hv).2.2
    rw [wide_next hlt] at hw
    simp [e0, e3, e4, hlt]
    refine TS.callW k1 (Dws.self (by simp)) ?_
    cases hm : muchR l[i] with
    | true =>
      rw [hm] at hw
      simp [hw]
    | false =>
      obtain ⟨_, _, h30⟩ := muchR_ok hm hr
      have hp : n * (l[i].rows.length + 1) ≤ 2000 * 31 := Nat.mul_le_mul hn (by omega)
      rw [hm, Bool.false_or] at hw
      obtain ⟨m, hm2⟩ : ∃ m, m = n * (l[i].rows.length + 1) := ⟨_, rfl⟩
      have e2 : IntKind.i64.wrap ((n : Int) * ((l[i].rows.length : Int) + 1)) = (m : Int) := by
        have : (n : Int) * ((l[i].rows.length : Int) + 1) = (m : Int) := by rw [hm2, Int.natCast_mul]; rfl
        rw [this, wrap_i64 (by omega) (by omega)]
      have e1 : IntKind.i64.wrap ((l[i].rows.length : Int) + 1) = (l[i].rows.length : Int) + 1 := wrap_i64 (by omega) (by omega)
      rw [← hm2] at hp hw
      simp [e0, e3, e4, hlt, e1, e2]
      refine condK_of (fun c => ?_) (fun c => ?_)
      · simp at c
        have : W = true := by
          rw [hw, Bool.or_eq_true, Bool.or_eq_true, decide_eq_true_iff, decide_eq_true_iff]
          left; omega
        simp [this]
      · simp at c
        simp [e0, e3, e4, e1, e2]
        refine ⟨i + 1, by omega, ew, by omega, m, rfl, by omega, ?_⟩
        rw [hw, decide_eq_false (by omega), decide_eq_false (by omega)]
        rfl
  · have : i = l.length := by omega
    subst this
    rw [List.drop_of_length_le (Nat.le_refl _)] at hw
    simp [e0, e3, e4, hw, wideF]
theorem T_SemiTwo (a b : Rel) (ha : RelIn a) (hb : RelIn b) : T Tryz.prog 3 [a.av, b.av] (.bool true) := by
  have k1 := T_rmuch24 a ha.nc ha.nr fun l hl v hv => ((ha.row l hl).2 v hv).2.2
  have k2 := T_rmuch24 b hb.nc hb.nr fun l hl v hv => ((hb.row l hl).2 v hv).2.2
  refine T.intro (TS.body mix Tryz.func3 (by kernel_rfl) rfl (by kernel_rfl) (by simp) ?_)
  simp
  refine TS.callW k1 (Dws.self (by simp)) ?_
  cases hm : muchR a with
  | true =>
    simp
    refine GTK.callW (fun h => nomatch h) (ys := []) (r := .bool true) ?_
    simp
    refine TS.callW T_live24 .nil ?_
    simp
  | false =>
  obtain ⟨hok, hc20, hr30⟩ := muchR_ok hm ha
  simp
  refine GTK.callW (fun _ => ⟨k2, Dws.self (by simp)⟩) ?_
  cases hm2 : muchR b with
  | true =>
    simp
    refine TS.callW T_live24 .nil ?_
    simp
  | false =>
  obtain ⟨hok2, hc2, hr2⟩ := muchR_ok hm2 hb
  have oa := heldR_ok hok
  have ob := heldR_ok hok2
  have same : ∀ r : Rel, OkR r → T Tryz.prog 14 [r.av, r.av] (.bool true) := fun r h =>
    T_rsame24 r (by have := h.nc; omega) (by have := h.nr; omega) fun l hl => by have := (h.row l hl).1; omega
  have hjo : OkR (joinR (heldR a) (heldR b)) := by
    have hL : OkL [a, b] := by
      have hp : (a.rows.length + 1) * (b.rows.length + 1) ≤ 31 * 31 := Nat.mul_le_mul (by omega) (by omega)
      refine ⟨fun r h => ?_, fun r h => ?_, by simp, ?_⟩
      · simp at h; rcases h with rfl | rfl <;> assumption
      · simp at h; rcases h with rfl | rfl <;> assumption
      · show (a.rows.length + 1) * ((b.rows.length + 1) * 1) ≤ _
        rw [Nat.mul_one]; omega
    have := hL.held.all
    have e : allJ ([a, b].map heldR) = joinR (heldR a) (heldR b) := by
      show joinR (joinR _ _) _ = _
      rw [join_unit (heldR_right a)]
    rwa [e] at this
  have c1 := T_sright a hok
  have c2 := T_rright24 a hok
  have c3 := T_semijoin a b hok hok2 (by omega)
  have c4 := T_rsome24 a b true hok hok2
  have c5 := same _ (someR_ok (b := heldR b) (w := true) oa)
  have c6 := T_anti a b hok hok2 (by omega)
  have c7 := T_rsome24 a b false hok hok2
  have c8 := same _ (someR_ok (b := heldR b) (w := false) oa)
  have c9 := T_sjoin a b hok hok2 (by have := bothR_len (heldR a) (heldR b); have := held_cols a; omega)
  have c10 := T_rjoin24 a b hok hok2
  have c11 := same _ hjo
  generalize someR (heldR a) (heldR b) true = s1 at *
  generalize someR (heldR a) (heldR b) false = s2 at *
  generalize joinR (heldR a) (heldR b) = s3 at *
  simp
  refine TDK.callW c1 (Dws.self (by simp)) ?_
  simp
  refine TDK.callW c2 (Dws.self (by simp)) ?_
  simp
  refine GTK.callW (fun _ => ⟨c3, Dws.self (by simp)⟩) ?_
  simp
  refine GTK.callW (fun _ => ⟨c4, Dws.self (by simp)⟩) ?_
  simp
  refine GTK.callW (fun _ => ⟨c5, Dws.self (by simp)⟩) ?_
  simp
  refine GTK.callW (fun _ => ⟨c6, Dws.self (by simp)⟩) ?_
  simp
  refine GTK.callW (fun _ => ⟨c7, Dws.self (by simp)⟩) ?_
  simp
  refine GTK.callW (fun _ => ⟨c8, Dws.self (by simp)⟩) ?_
  simp
  refine GTK.callW (fun _ => ⟨c9, Dws.self (by simp)⟩) ?_
  simp
  refine GTK.callW (fun _ => ⟨c10, Dws.self (by simp)⟩) ?_
  simp
  refine GTK.callW (fun _ => ⟨c11, Dws.self (by simp)⟩) ?_
  simp
  refine GTK.callW (fun _ => ⟨T_live24, .nil⟩) ?_
  simp
theorem Rel_in2 {cs : List AV} (h : Sh Tryz.prog 25 cs) : ∃ r : Rel, cs = r.cs ∧ RelIn r := by
  have hrl := reach_lt
  obtain ⟨hl, hf⟩ := h.struct_of ft_25
  obtain ⟨x, y, rfl⟩ : ∃ x y, cs = [x, y] := by
    match cs, hl with
    | [x, y], _ => exact ⟨x, y, rfl⟩
  obtain ⟨l, h1, hn⟩ := ints_in (hf (22, 0, 1) (by simp))
  obtain ⟨zs, h3, hz, hzl⟩ := (hf (23, 1, 1) (by simp)).sl_of un_23 ag_59
  simp at h1 h3
  subst h1; subst h3
  obtain ⟨rows, er, elr, hrow⟩ := list_in (f := rowA) (g := mkAV false) (Q := fun r => r.length < 4611686018427387904 ∧ ∀ v, v ∈ r → valIn v) (fun z hz' => by
    obtain ⟨l, e, hv, hlen⟩ := vals_in (hz z hz')
    exact ⟨l, by rw [e]; rfl, hlen, hv⟩)
  have b2 : 1 ≤ Tryz.prog.bytesOf 59 := by decide +kernel
  have m2 := Nat.mul_le_mul_left zs.length b2
  exact ⟨⟨l, rows⟩, by rw [er]; rfl, hn.2, by show rows.length < _; omega, hrow⟩
theorem S_SemiTwo {xs : List AV} (h : ShA Tryz.prog [25, 25] xs) : T Tryz.prog 3 xs (.bool true) := by
  obtain ⟨y, r, rfl, h0, h⟩ := h.cons_of ag_25
  obtain ⟨y, r, rfl, h1, h⟩ := h.cons_of ag_25
  obtain rfl := h.nil_of
  obtain ⟨a, rfl, ha⟩ := Rel_in2 h0
  obtain ⟨b, rfl, hb⟩ := Rel_in2 h1
  exact T_SemiTwo a b ha hb
end Go.Proofs.YtjplcdeaedflpaaGreatDoor.PL
