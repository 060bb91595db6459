/- Relations: those that are held, copies, and what is kept of a list. -/
import Derived.Test.YtjplcdeaedflpaaDoorFRel2
namespace Go.Proofs.YtjplcdeaedflpaaDoor.PL
open Go.Proofs
set_option linter.unusedVariables false
set_option linter.unusedSimpArgs false
theorem filter_nextR {α : Type} {q : α → Bool} {l : List α} {i : Nat} (h : i < l.length) : (l.take (i + 1)).filter q = (l.take i).filter q ++ if q l[i] = true then [l[i]] else [] := by
  rw [take_next h, List.filter_append]
  cases hq : q l[i] <;> simp [hq]
theorem T_cloneI4 (l : List Int) (hl : l.length ≤ 1000000) : T Tryd.prog 33 [.sl .no (ints' l)] (.sl .no (ints' l)) := by
  refine T.introF (TS.body mix Tryd.func33 (by kernel_rfl) rfl (by kernel_rfl) (by simp) ?_)
  simp
  refine ⟨by simp [isSlT, un_22], ?_⟩
  by_cases h : l = []
  · subst h
    simp
    exact ⟨.sl .nil rfl fun n h => h, .sl .nil rfl fun n h => h⟩
  · simp [h]
    exact ⟨by omega, Frz.slN (f := AV.int .i64)⟩
theorem T_cloneV4 (l : List Val) (hl : l.length ≤ 1000000) : T Tryd.prog 46 [.sl .no (vals' l)] (.sl .no (vals' l)) := by
  refine T.introF (TS.body mix Tryd.func46 (by kernel_rfl) rfl (by kernel_rfl) (by simp) ?_)
  simp
  refine ⟨by simp [isSlT, un_31], ?_⟩
  by_cases h : l = []
  · subst h
    simp
    exact ⟨.sl .nil rfl fun n h => h, .sl .nil rfl fun n h => h⟩
  · simp [h]
    exact ⟨by omega, Frz.slN (f := Val.av)⟩
theorem T_cloneR4 (l : List (List Val)) (hl : l.length ≤ 1000000) : T Tryd.prog 34 [.sl .no (rows' l)] (.sl .no (rows' l)) := by
  refine T.introF (TS.body mix Tryd.func34 (by kernel_rfl) rfl (by kernel_rfl) (by simp) ?_)
  simp
  refine ⟨by simp [isSlT, un_23], ?_⟩
  by_cases h : l = []
  · subst h
    simp
    exact ⟨.sl .nil rfl fun n h => h, .sl .nil rfl fun n h => h⟩
  · simp [h]
    exact ⟨by omega, Frz.slN (f := fun r => AV.sl .no (vals' r))⟩
/-- what is kept of a list -/
theorem S_keepI (H : List HO) (own : Own) (f : FuncId) (caps : List AV) (l : List Int) (q : Int → Bool) (hl : l.length ≤ 1000000) (hq : ∀ x, x ∈ l → ∀ J, TS Tryd.prog f (.int .i64 x :: caps) (H ++ J) (pt (.bool (q x)) (H ++ J))) : TS Tryd.prog 41 [.sl own (ints' l), .fn (.func f) [] caps] H (pt (.sl .no (ints' (l.filter q))) H) := by
  refine TS.dropF (H0 := H) ?_ (Nat.le_refl _) (fun h hm => .inl hm)
  refine TS.body mix Tryd.func41 (by kernel_rfl) rfl (by kernel_rfl) (by simp) ?_
  simp
  refine vc_loop (fun i : Nat => l.length - i) (fun i e H' => e 1 = .fn (.func f) [] caps ∧ e 8 = .sl own (ints' l) ∧ e 9 = .int .i64 l.length ∧ e 10 = .int .i64 i ∧ i ≤ l.length ∧ ∃ J, H' = H ++ J ∧ GrowB 1 H J (e 5) (ints' ((l.take i).filter q))) 0 ?_ ?_
  · simp
    exact .nil
  rintro i e H' ⟨e1, e8, e9, e10, hi, J, rfl, hg⟩
  by_cases hlt : i < l.length
  · have ew := wrap_next hlt (by omega)
    have hqi := hq l[i] (List.getElem_mem hlt) J
    have hnx := filter_nextR (q := q) hlt
    have hfl : ((l.take i).filter q).length ≤ i := Nat.le_trans (List.length_filter_le ..) (by simp; omega)
    simp [e1, e8, e9, e10, hlt]
    refine TS.pt hqi ?_
    cases hc : q l[i] with
    | true =>
      rw [hc, if_pos rfl] at hnx
      rcases hg with ⟨ge, gx⟩ | ⟨t, gx, ht⟩
      · rw [avs_eq_nil] at ge
        simp [e1, e8, e9, e10, hlt, hc, gx]
        refine ⟨i + 1, by omega, ew, by omega, ?_⟩
        rw [hnx]
        exact GrowB.first (f := AV.int .i64) ge (by simp)
      · have hw := ht
        simp only [avs_length] at hw
        have hw' : (H ++ J)[H.length + t]? = some (.spare ((l.take i).filter q).length 1) := by rw [List.getElem?_append_right (by omega)]; simpa using hw
        simp [e1, e8, e9, e10, hlt, hc, gx, hw']
        refine ⟨by omega, i + 1, by omega, ew, by omega, ?_⟩
        rw [hnx]
        exact GrowB.more (f := AV.int .i64) ht (by omega)
    | false =>
      rw [hc, if_neg (by simp), List.append_nil] at hnx
      simp [e1, e8, e9, e10, hlt, hc]
      exact ⟨i + 1, by omega, ew, by omega, by rw [hnx]; exact hg⟩
  · have : i = l.length := by omega
    subst this
    rw [List.take_length] at hg
    obtain ⟨own, gx⟩ := hg.own
    simp [e1, e8, e9, e10, gx]
    exact Frz.slN (f := AV.int .i64)
/-- what is kept of a list -/
theorem S_keepR (H : List HO) (own : Own) (f : FuncId) (caps : List AV) (l : List (List Val)) (q : List Val → Bool) (hl : l.length ≤ 1000000) (hq : ∀ x, x ∈ l → ∀ J, TS Tryd.prog f (rowA x :: caps) (H ++ J) (pt (.bool (q x)) (H ++ J))) : TS Tryd.prog 29 [.sl own (rows' l), .fn (.func f) [] caps] H (pt (.sl .no (rows' (l.filter q))) H) := by
  refine TS.dropF (H0 := H) ?_ (Nat.le_refl _) (fun h hm => .inl hm)
  refine TS.body mix Tryd.func29 (by kernel_rfl) rfl (by kernel_rfl) (by simp) ?_
  simp
  refine vc_loop (fun i : Nat => l.length - i) (fun i e H' => e 1 = .fn (.func f) [] caps ∧ e 8 = .sl own (rows' l) ∧ e 9 = .int .i64 l.length ∧ e 10 = .int .i64 i ∧ i ≤ l.length ∧ ∃ J, H' = H ++ J ∧ GrowB 1 H J (e 5) (rows' ((l.take i).filter q))) 0 ?_ ?_
  · simp
    exact .nil
  rintro i e H' ⟨e1, e8, e9, e10, hi, J, rfl, hg⟩
  by_cases hlt : i < l.length
  · have ew := wrap_next hlt (by omega)
    have hqi := hq l[i] (List.getElem_mem hlt) J
    have hnx := filter_nextR (q := q) hlt
    have hfl : ((l.take i).filter q).length ≤ i := Nat.le_trans (List.length_filter_le ..) (by simp; omega)
    simp [e1, e8, e9, e10, hlt]
    refine TS.pt hqi ?_
    cases hc : q l[i] with
    | true =>
      rw [hc, if_pos rfl] at hnx
      rcases hg with ⟨ge, gx⟩ | ⟨t, gx, ht⟩
      · rw [avs_eq_nil] at ge
        simp [e1, e8, e9, e10, hlt, hc, gx]
        refine ⟨i + 1, by omega, ew, by omega, ?_⟩
        rw [hnx]
        exact GrowB.first (f := fun r => AV.sl .no (vals' r)) ge (by simp)
      · have hw := ht
        simp only [avs_length] at hw
        have hw' : (H ++ J)[H.length + t]? = some (.spare ((l.take i).filter q).length 1) := by rw [List.getElem?_append_right (by omega)]; simpa using hw
        simp [e1, e8, e9, e10, hlt, hc, gx, hw']
        refine ⟨by omega, i + 1, by omega, ew, by omega, ?_⟩
        rw [hnx]
        exact GrowB.more (f := fun r => AV.sl .no (vals' r)) ht (by omega)
    | false =>
      rw [hc, if_neg (by simp), List.append_nil] at hnx
      simp [e1, e8, e9, e10, hlt, hc]
      exact ⟨i + 1, by omega, ew, by omega, by rw [hnx]; exact hg⟩
  · have : i = l.length := by omega
    subst this
    rw [List.take_length] at hg
    obtain ⟨own, gx⟩ := hg.own
    simp [e1, e8, e9, e10, gx]
    exact Frz.slN (f := fun r => AV.sl .no (vals' r))
theorem T_scopied (l : List (List Val)) (hl : l.length ≤ 100000) (hr : ∀ x, x ∈ l → x.length ≤ 1000000) : T Tryd.prog 31 [.sl .no (rows' l)] (.sl .no (rows' l)) := by
  refine T.introF (TS.body mix Tryd.func31 (by kernel_rfl) rfl (by kernel_rfl) (by simp) ?_)
  simp
  refine vc_loop (fun i : Nat => l.length - i) (fun i e H => e 6 = .sl .no (rows' l) ∧ e 7 = .int .i64 l.length ∧ e 8 = .int .i64 i ∧ i ≤ l.length ∧ Grow1 1 H (e 3) (rows' (l.take i))) 0 ?_ ?_
  · simp
    exact .nil
  rintro i e H ⟨e6, e7, e8, hi, hg⟩
  by_cases hlt : i < l.length
  · have ew := wrap_next hlt (by omega)
    have k := T_cloneV4 l[i] (hr _ (List.getElem_mem hlt))
    have hnx : l.take (i + 1) = l.take i ++ [l[i]] := take_next hlt
    have hml : (l.take i).length = i := by simp; omega
    simp [e6, e7, e8, hlt]
    refine TS.callW k (Dws.self (by simp)) ?_
    rcases hg with ⟨ge, gx⟩ | ⟨t, gx, ht⟩
    · rw [avs_eq_nil] at ge
      simp [e6, e7, e8, hlt, gx]
      refine ⟨i + 1, by omega, ew, by omega, ?_⟩
      rw [hnx]
      exact Grow1.first (f := fun r => AV.sl .no (vals' r)) ge rfl
    · have hw := ht
      simp only [avs_length] at hw
      simp [e6, e7, e8, hlt, gx, hw]
      refine ⟨by omega, i + 1, by omega, ew, by omega, ?_⟩
      rw [hnx]
      exact Grow1.more (f := fun r => AV.sl .no (vals' r)) ht (by omega)
  · have : i = l.length := by omega
    subst this
    rw [List.take_length] at hg
    obtain ⟨own, gx⟩ := hg.own
    simp [e6, e7, e8, gx]
    exact Frz.slN (f := fun r => AV.sl .no (vals' r))
theorem T_sheld (r : Rel) (hr : OkR r) : T Tryd.prog 16 [r.av] (heldR r).av := by
  have k1 := T_sright r hr
  have k2 := T_cloneI4 r.cols (by have := hr.nc; omega)
  have k3 := T_cloneR4 r.rows (by have := hr.nr; omega)
  unfold heldR
  refine T.introF (TS.body mix Tryd.func16 (by kernel_rfl) rfl (by kernel_rfl) (by simp) ?_)
  simp
  refine TS.callW k1 (Dws.self (by simp)) ?_
  cases h : rightR r with
  | false =>
    simp [zR]
    exact .agg (.cons (Frz.slN (f := AV.int .i64) (l := [])) (.cons (Frz.slN (f := fun r => AV.sl .no (vals' r)) (l := [])) .nil))
  | true =>
    simp
    refine TDK.callW k2 (Dws.self (by simp)) ?_
    simp
    refine TDK.callW k3 (Dws.self (by simp)) ?_
    simp
    exact .agg (.cons (Frz.slN (f := AV.int .i64)) (.cons (Frz.slN (f := fun r => AV.sl .no (vals' r))) .nil))
theorem T_rright24 (r : Rel) (hr : OkR r) : T Tryd.prog 5 [r.av] (.bool (rightR r)) := by
  have hnc := hr.nc
  have hnr := hr.nr
  refine T.intro (TS.body mix Tryd.func5 (by kernel_rfl) rfl (by kernel_rfl) (by simp) ?_)
  simp
  refine vc_loop (fun i : Nat => r.cols.length - i) (fun i e H => e 1 = .ptr 0 0 ∧ e 3 = .int .i64 i ∧ i ≤ r.cols.length ∧ H = [.box r.cs] ∧ ∀ j (h : j + 1 < r.cols.length), j < i → r.cols[j] < r.cols[j + 1]) 0 ?_ ?_
  · simp
  rintro i e H ⟨e1, e3, hi, rfl, hno⟩
  have ew : IntKind.i64.wrap ((i : Int) + 1) = ((i + 1 : Nat) : Int) := by rw [wrap_i64 (by omega) (by omega)]; omega
  obtain ⟨m, hm⟩ : ∃ m, m = i + 1 := ⟨_, rfl⟩
  rw [← hm] at ew
  by_cases hlt : i + 1 < r.cols.length
  · have hltm : m < r.cols.length := by omega
    have hlt3 : i < r.cols.length := by omega
    simp [e1, e3, ew, hltm, hlt3]
    refine condK_of (fun c => ?_) (fun c => ?_)
    · simp at c
      have : rightR r = false := by
        unfold rightR
        rw [risesB_no hlt (by subst hm; omega)]
        rfl
      simp [this]
    · simp at c
      simp [e1, e3, ew]
      refine ⟨i + 1, by omega, by omega, by omega, fun j h hj => ?_⟩
      rcases Nat.lt_or_ge j i with h2 | h2
      · exact hno j h h2
      · have : j = i := by omega
        subst this; subst hm; exact c
  · have hge : ¬ m < r.cols.length := by omega
    have hr2 : risesB r.cols = true := risesB_next fun j h => hno j h (by omega)
    simp [e1, e3, ew, hge]
    refine vc_loop (fun i : Nat => r.rows.length - i) (fun i e H => e 1 = .ptr 0 0 ∧ e 4 = .int .i64 i ∧ i ≤ r.rows.length ∧ H = [.box r.cs] ∧ ∀ j (h : j < r.rows.length), j < i → wideB r.cols.length r.rows[j] = false) 0 ?_ ?_
    · simp [e1]
    rintro i e H ⟨e1, e4, hi, rfl, hno⟩
    by_cases hlt : i < r.rows.length
    · have ew := wrap_next hlt (by omega)
      have hrow := (hr.row _ (List.getElem_mem hlt)).1
      by_cases hw : (r.rows[i]).length = r.cols.length
      · simp [e1, e4, hlt, hw]
        refine ⟨i + 1, by omega, ew, by omega, fun j h hj => ?_⟩
        rcases Nat.lt_or_ge j i with h2 | h2
        · exact hno j h h2
        · have : j = i := by omega
          subst this; simp [wideB, hw]
      · have hw2 : ¬ ((r.rows[i]).length : Int) = r.cols.length := by omega
        have : rightR r = false := by
          unfold rightR
          have : r.rows.any (wideB r.cols.length) = true := List.any_eq_true.2 ⟨_, List.getElem_mem hlt, by simp [wideB, hw]⟩
          rw [this]; simp
        simp [e1, e4, hlt, hw2, this]
    · have : i = r.rows.length := by omega
      subst this
      have : rightR r = true := by
        unfold rightR
        have : r.rows.any (wideB r.cols.length) = false := by
          rw [List.any_eq_false]
          intro x hx
          obtain ⟨j, hj, rfl⟩ := List.getElem_of_mem hx
          simp [hno j hj hj]
        rw [this, hr2]; rfl
      simp [e1, e4, this]
theorem T_rheld24 (r : Rel) (hr : OkR r) : T Tryd.prog 23 [r.av] (heldR r).av := by
  have k1 := T_rright24 r hr
  unfold heldR
  refine T.introF (TS.body mix Tryd.func23 (by kernel_rfl) rfl (by kernel_rfl) (by simp) ?_)
  simp
  refine TS.callW k1 (Dws.self (by simp)) ?_
  cases h : rightR r with
  | false =>
    simp [zR]
    exact .agg (.cons (Frz.slN (f := AV.int .i64) (l := [])) (.cons (Frz.slN (f := fun r => AV.sl .no (vals' r)) (l := [])) .nil))
  | true =>
    simp
    exact .agg (.cons (Frz.slN (f := AV.int .i64)) (.cons (Frz.slN (f := fun r => AV.sl .no (vals' r))) .nil))
end Go.Proofs.YtjplcdeaedflpaaDoor.PL
