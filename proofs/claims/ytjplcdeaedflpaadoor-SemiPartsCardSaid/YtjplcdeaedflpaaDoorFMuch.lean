/- What is asked of rows in statements. -/
import Derived.Test.YtjplcdeaedflpaaDoorFVal
namespace Go.Proofs.YtjplcdeaedflpaaDoor.PL
open Go.Proofs
set_option linter.unusedVariables false
set_option linter.unusedSimpArgs false
abbrev vals' (l : List Val) : List AV := avs Val.av l
abbrev rowA (l : List Val) : AV := .sl .no (vals' l)
abbrev rows' (l : List (List Val)) : List AV := avs (fun r => AV.sl .no (vals' r)) l
instance : Plain (fun r => AV.sl .no (vals' r)) := ⟨fun r => by simp⟩

theorem reach_lt : reachBytes ≤ 140737488355328 := by decide
def muchN (r : List Val) : Int := (r.map fun v => 1 + (v.s.size : Int)).sum
def muchL : List (List Val) → Int → Bool
  | [], _ => false
  | r :: rs, n => if 40 < r.length then true else if 2000 < n + muchN r then true else muchL rs (n + muchN r)
def much (L : List (List Val)) : Bool := muchL (L.take 60) 0 || decide (50 < L.length)
theorem muchN_pos : ∀ r : List Val, 0 ≤ muchN r
  | [] => by simp [muchN]
  | v :: r => by have := muchN_pos r; simp only [muchN, List.map_cons, List.sum_cons] at *; omega
theorem muchN_next {r : List Val} {j : Nat} (h : j < r.length) : muchN (r.take (j + 1)) = muchN (r.take j) + (1 + (r[j].s.size : Int)) := by
  unfold muchN; rw [take_next h, List.map_append, List.sum_append]; simp
theorem muchN_le {r : List Val} (hr : ∀ v, v ∈ r → v.s.size ≤ reachBytes) : muchN r ≤ (1 + reachBytes : Int) * r.length := by
  induction r with
  | nil => simp [muchN]
  | cons v r ih =>
    have h1 := ih fun v hv => hr v (List.mem_cons_of_mem _ hv)
    have h2 := hr v (List.mem_cons_self ..)
    simp only [muchN, List.map_cons, List.sum_cons, List.length_cons] at *
    rw [Int.natCast_add, Int.mul_add]
    omega
theorem muchN_mem {r : List Val} {v : Val} (h : v ∈ r) : 1 + (v.s.size : Int) ≤ muchN r := by
  induction r with
  | nil => cases h
  | cons w r ih =>
    have := muchN_pos r
    simp only [muchN, List.map_cons, List.sum_cons] at *
    rcases List.mem_cons.1 h with rfl | h
    · omega
    · have := ih h; omega
theorem muchL_no : ∀ {L : List (List Val)} {n : Int}, 0 ≤ n → muchL L n = false → ∀ r, r ∈ L → r.length ≤ 40 ∧ ∀ v, v ∈ r → v.s.size ≤ 2000
  | [], _, _, _, r, hr => by cases hr
  | q :: L, n, hn, h, r, hr => by
    unfold muchL at h
    split at h
    · cases h
    · split at h
      · cases h
      · have hq := muchN_pos q
        rcases List.mem_cons.1 hr with rfl | hr
        · refine ⟨by omega, fun v hv => ?_⟩
          have := muchN_mem hv
          omega
        · exact muchL_no (by omega) h r hr
theorem much_no {L : List (List Val)} (h : much L = false) : L.length ≤ 50 ∧ ∀ r, r ∈ L → r.length ≤ 40 ∧ ∀ v, v ∈ r → v.s.size ≤ 2000 := by
  unfold much at h
  simp at h
  refine ⟨h.2, fun r hr => muchL_no (Int.le_refl _) h.1 r ?_⟩
  rwa [List.take_of_length_le (by omega)]
theorem T_much (L : List (List Val)) (hL : L.length < 4611686018427387904) (hv : ∀ r, r ∈ L → ∀ v, v ∈ r → v.s.size ≤ reachBytes) : T Tryd.prog 14 [.sl .no (rows' L)] (.bool (much L)) := by
  have hrl := reach_lt
  refine T.intro (TS.body mix Tryd.func14 (by kernel_rfl) rfl (by kernel_rfl) (by simp) ?_)
  simp
  refine vc_loop (fun i : Nat => 60 - i) (fun i e H => ∃ n : Int, e 0 = .sl .no (rows' L) ∧ e 3 = .int .i64 n ∧ e 4 = .int .i64 i ∧ 0 ≤ n ∧ n ≤ 2000 ∧ i ≤ 60 ∧ i ≤ L.length ∧ much L = (muchL ((L.take 60).drop i) n || decide (50 < L.length))) 0 ?_ ?_
  · exact ⟨0, by simp [much]⟩
  rintro i e H ⟨n, h0, h3, h4, hn, hn2, hi, hi2, hm⟩
  by_cases hlt : i < L.length ∧ i < 60
  · have hlt' : i < (L.take 60).length := by rw [List.length_take]; omega
    have ed : (L.take 60).drop i = L[i] :: (L.take 60).drop (i + 1) := by rw [List.drop_eq_getElem_cons hlt', List.getElem_take]
    have hv' := hv L[i] (List.getElem_mem hlt.1)
    generalize hq : L[i] = q at *
    have h60 : ((i : Int) < 60) = True := eq_true (by omega)
    simp [h0, h3, h4, hlt.1, h60, hq]
    refine condK_of (fun h5 => ?_) (fun h5 => ?_)
    · simp at h5
      simp
      rw [hm, ed, muchL, if_pos (by omega)]; simp
    simp at h5
    have hqn := muchN_le hv'
    have hqb : (1 + (reachBytes : Int)) * q.length ≤ (1 + reachBytes) * 40 := Int.mul_le_mul_of_nonneg_left (by omega) (by omega)
    simp
    refine vc_loop (fun j : Nat => q.length - j) (fun j e H => e 0 = .sl .no (rows' L) ∧ e 3 = .int .i64 (n + muchN (q.take j)) ∧ e 4 = .int .i64 i ∧ e 5 = .int .i64 j ∧ j ≤ q.length) 0 ?_ ?_
    · simp [h0, h3, h4, muchN]
    clear h0 h3 h4 e
    rintro j e H ⟨h0, h3, h4, h5', hj⟩
    by_cases hjl : j < q.length
    · have en := muchN_next hjl
      have h1 := muchN_pos (q.take j)
      have h2 := muchN_le (r := q.take j) fun v hv => hv' v (List.mem_of_mem_take hv)
      have h3b : (1 + (reachBytes : Int)) * (q.take j).length ≤ (1 + reachBytes) * 40 := Int.mul_le_mul_of_nonneg_left (by rw [List.length_take]; omega) (by omega)
      have h6 := hv' q[j] (List.getElem_mem hjl)
      have w1 : IntKind.i64.wrap (n + muchN (q.take j) + 1) = n + muchN (q.take j) + 1 := wrap_i64 (by omega) (by omega)
      have w2 : IntKind.i64.wrap (n + muchN (q.take j) + 1 + q[j].s.size) = n + muchN (q.take (j + 1)) := by rw [wrap_i64 (by omega) (by omega)]; omega
      simp [h0, h3, h4, h5', hlt.1, hq, hjl, w1, w2]
      exact ⟨j + 1, by omega, rfl, wrap_next hjl (by omega), by omega⟩
    · have hje : j = q.length := by omega
      subst hje
      rw [List.take_length] at h3
      simp [h0, h3, h4, h5', hlt.1, hq]
      refine condK_of (fun h6 => ?_) (fun h6 => ?_)
      · simp at h6
        simp
        rw [hm, ed, muchL, if_neg (by omega), if_pos h6]; simp
      · simp at h6
        have hqp := muchN_pos q
        simp [h0, h3, h4, h5', hlt.1, hq]
        exact ⟨i + 1, by omega, wrap_next hlt.1 (by omega), by omega, h6, by omega, by omega, by rw [hm, ed, muchL, if_neg (by omega), if_neg (by omega)]⟩
  · have hc : (decide (i < L.length) && decide ((i : Int) < 60)) = false := by simp; omega
    have he : (L.take 60).drop i = [] := List.drop_of_length_le (by rw [List.length_take]; omega)
    simp [h0, h3, h4, hc]
    rw [hm, he]; simp [muchL]; try omega
/-- a list of values, as it comes in -/
def valIn (v : Val) : Prop := (-9223372036854775808 ≤ v.k ∧ v.k < 9223372036854775808) ∧ (-9223372036854775808 ≤ v.i ∧ v.i < 9223372036854775808) ∧ v.s.size ≤ reachBytes
theorem vals_in {cs : List AV} (h : Sh Tryd.prog 31 cs) : ∃ l : List Val, cs = [rowA l] ∧ (∀ v, v ∈ l → valIn v) ∧ l.length < 4611686018427387904 := by
  obtain ⟨ys, rfl, hy, b⟩ := h.sl_of un_31 ag_36
  obtain ⟨l, e, el, hl⟩ := list_in (f := Val.av) (g := mkAV true) (Q := valIn) (fun y hy' => by
    obtain ⟨v, e, _, h1, h2, h3⟩ := Val_in (hy y hy')
    exact ⟨v, e, h1, h2, h3⟩)
  have hb : 1 ≤ Tryd.prog.bytesOf 36 := by decide +kernel
  have hr := reach_lt
  have := Nat.mul_le_mul_left ys.length hb
  exact ⟨l, by rw [e]; rfl, hl, by omega⟩
end Go.Proofs.YtjplcdeaedflpaaDoor.PL
