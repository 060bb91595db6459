/- What the laws of truths tell. -/
import Derived.Test.YtgmhmdmfnmlhmaaFLogic
namespace Go.Proofs.Ytgmhmdmfnmlhmaa.PL
open Go.Proofs
set_option linter.unusedVariables false
set_option linter.unusedSimpArgs false
theorem not_and (l : List Int) : notT (andT l) = orT (l.map notT) := by
  have h1 : 1 ∈ l.map notT ↔ 0 ∈ l := by
    simp only [List.mem_map]
    constructor
    · rintro ⟨x, hx, h⟩
      unfold notT at h
      split at h
      · rename_i h0; rw [← h0]; exact hx
      · split at h <;> simp at h
    · intro h; exact ⟨0, h, rfl⟩
  have h2 : 2 ∈ (l.map notT).map tru ↔ 2 ∈ l.map tru := by
    simp only [List.mem_map, List.map_map, Function.comp]
    constructor
    · rintro ⟨x, hx, h⟩; refine ⟨x, hx, ?_⟩; unfold notT tru at h; unfold tru; grind
    · rintro ⟨x, hx, h⟩; refine ⟨x, hx, ?_⟩; unfold tru at h; unfold notT tru; grind
  unfold andT orT
  simp only [h1, h2]
  split
  · rfl
  · split <;> rfl
theorem T_LogicLaws (l : List Int) (a b : Bool) : T Try.prog 8 [.sl .no (ints' l), .bool a, .bool b] (.bool true) := by
  refine T.intro (TS.body mix Try.func8 (by kernel_rfl) rfl (by kernel_rfl) (by simp) ?_)
  simp
  refine condK_of (fun h => ?_) (fun h => ?_)
  · simp
    (first | refine TS.call' (T_live02) (by simp) ?_ | refine TDK.call' (T_live02) (by simp) ?_ | refine GTK.call (fun _ => ⟨T_live02, by simp⟩) ?_ | refine TS.call (T_live02) (by simp) ?_ | refine TDK.call (T_live02) (by simp) ?_); simp
  simp at h
  have hl : l.length < 4611686018427387904 := by omega
  simp
  refine vc_loop (fun i : Nat => l.length - i) (fun i e H => e 0 = .sl .no (ints' l) ∧ e 1 = .bool a ∧ e 2 = .bool b ∧ e 9 = .int .i64 i ∧ i ≤ l.length ∧ Grow 1 H (e 7) (ints' ((l.take i).map notT)) ∧ ∃ own, e 8 = .sl own (ints' (l.take i).reverse)) 0 ?_ ?_
  · simp [Grow]
  rintro i e H ⟨h0, h1, h2, h9, hi, hg, own, h8⟩
  by_cases hlt : i < l.length
  · have et : l.take (i + 1) = l.take i ++ [l[i]] := List.take_succ_eq_append_getElem hlt
    simp [h0, h9, hlt]
    (first | refine TS.call' (T_lnot l[i]) (by simp) ?_ | refine TDK.call' (T_lnot l[i]) (by simp) ?_ | refine GTK.call (fun _ => ⟨T_lnot l[i], by simp⟩) ?_ | refine TS.call (T_lnot l[i]) (by simp) ?_ | refine TDK.call (T_lnot l[i]) (by simp) ?_); simp
    have ew := wrap_next hlt (by omega)
    rcases hg with hg | ⟨t, hg, ht⟩ <;> simp [hg, h8, h0, h9, hlt, h1, h2]
    all_goals
      have hmin : min i l.length = i := by omega
      have hne : l ≠ [] := by rintro rfl; simp at hlt
      have em : List.take i (List.map notT l) ++ [notT l[i]] = List.take (i + 1) (List.map notT l) := by rw [← List.map_take, ← List.map_take, et, List.map_append]; rfl
      rw [hmin]
      clear hmin
    · refine ⟨⟨by omega, by omega⟩, ⟨by omega, by omega⟩, i + 1, by omega, ew, by omega, ?_, ?_⟩
      · rw [em]
        refine .inr ⟨H.length, rfl, ?_⟩
        simp [hne]
        split <;> simp <;> omega
      · by_cases hz : i = 0
        · subst hz; rw [et, if_pos (.inl rfl)]; exact ⟨_, rfl⟩
        · rw [if_neg (by simp [hz, hne]), et]; exact ⟨_, by rw [List.reverse_append]; rfl⟩
    · refine ⟨⟨by omega, by omega, by rw [ht]; simp; omega⟩, ⟨by omega, by omega⟩, i + 1, by omega, ew, by omega, ?_, ?_⟩
      · rw [em]
        refine .inr ⟨t, rfl, ?_⟩
        have hs := getElem?_set_same (a := HO.spare (i + 1) 1) ht
        have e2 : (ints' (List.take (i + 1) (List.map notT l))).length = i + 1 := by simp; omega
        rw [e2]
        split
        · exact hs
        · exact getElem?_app hs
      · by_cases hz : i = 0
        · subst hz; rw [et, if_pos (.inl rfl)]; exact ⟨_, rfl⟩
        · rw [if_neg (by simp [hz, hne]), et]; exact ⟨_, by rw [List.reverse_append]; rfl⟩
  · have : i = l.length := by omega
    subst this
    obtain ⟨own2, h7⟩ := hg.own
    rw [List.take_length] at h7 h8
    have hlr : l.reverse.length < 4611686018427387904 := by simpa using hl
    have hln : (l.map notT).length < 4611686018427387904 := by simpa using hl
    have ha : andT l.reverse = andT l := by simp [andT]
    have ho : orT l.reverse = orT l := by simp [orT]
    simp [h0, h1, h2, h9]
    have e1 : andT [if a then 1 else 0, if b then 1 else 0] = if a && b then 1 else 0 := by cases a <;> cases b <;> decide
    have e2 : orT [if a then 1 else 0, if b then 1 else 0] = if a || b then 1 else 0 := by cases a <;> cases b <;> decide
    have e3 : notT (if a then 1 else 0) = if a then 0 else 1 := by cases a <;> decide
    have e4 : notT (andT l) = orT (l.map notT) := not_and l
    (first | refine TS.call' (T_lof a) (by simp [h1, h2]) ?_ | refine TDK.call' (T_lof a) (by simp [h1, h2]) ?_ | refine GTK.call (fun _ => ⟨T_lof a, by simp [h1, h2]⟩) ?_ | refine TS.call (T_lof a) (by simp [h1, h2]) ?_ | refine TDK.call (T_lof a) (by simp [h1, h2]) ?_); simp [h1, h2]
    (first | refine TS.call' (T_lof b) (by simp [h1, h2]) ?_ | refine TDK.call' (T_lof b) (by simp [h1, h2]) ?_ | refine GTK.call (fun _ => ⟨T_lof b, by simp [h1, h2]⟩) ?_ | refine TS.call (T_lof b) (by simp [h1, h2]) ?_ | refine TDK.call (T_lof b) (by simp [h1, h2]) ?_); simp [h1, h2]
    (first | refine TS.call' (T_land [if a then 1 else 0, if b then 1 else 0] (by show 2 < _; omega)) (by simp [h1, h2, e1]) ?_ | refine TDK.call' (T_land [if a then 1 else 0, if b then 1 else 0] (by show 2 < _; omega)) (by simp [h1, h2, e1]) ?_ | refine GTK.call (fun _ => ⟨T_land [if a then 1 else 0, if b then 1 else 0] (by show 2 < _; omega), by simp [h1, h2, e1]⟩) ?_ | refine TS.call (T_land [if a then 1 else 0, if b then 1 else 0] (by show 2 < _; omega)) (by simp [h1, h2, e1]) ?_ | refine TDK.call (T_land [if a then 1 else 0, if b then 1 else 0] (by show 2 < _; omega)) (by simp [h1, h2, e1]) ?_); simp [h1, h2, e1]
    (first | refine TS.call' (T_lis (if a && b then 1 else 0)) (by simp [h1, h2, e1]) ?_ | refine TDK.call' (T_lis (if a && b then 1 else 0)) (by simp [h1, h2, e1]) ?_ | refine GTK.call (fun _ => ⟨T_lis (if a && b then 1 else 0), by simp [h1, h2, e1]⟩) ?_ | refine TS.call (T_lis (if a && b then 1 else 0)) (by simp [h1, h2, e1]) ?_ | refine TDK.call (T_lis (if a && b then 1 else 0)) (by simp [h1, h2, e1]) ?_); simp [h1, h2, e1]
    (first | refine TS.call' (T_lof a) (by simp [h1, h2, e1]) ?_ | refine TDK.call' (T_lof a) (by simp [h1, h2, e1]) ?_ | refine GTK.call (fun _ => ⟨T_lof a, by simp [h1, h2, e1]⟩) ?_ | refine TS.call (T_lof a) (by simp [h1, h2, e1]) ?_ | refine TDK.call (T_lof a) (by simp [h1, h2, e1]) ?_); simp [h1, h2, e1]
    (first | refine TS.call' (T_lof b) (by simp [h1, h2, e1]) ?_ | refine TDK.call' (T_lof b) (by simp [h1, h2, e1]) ?_ | refine GTK.call (fun _ => ⟨T_lof b, by simp [h1, h2, e1]⟩) ?_ | refine TS.call (T_lof b) (by simp [h1, h2, e1]) ?_ | refine TDK.call (T_lof b) (by simp [h1, h2, e1]) ?_); simp [h1, h2, e1]
    (first | refine TS.call' (T_lor [if a then 1 else 0, if b then 1 else 0] (by show 2 < _; omega)) (by simp [h1, h2, e2]) ?_ | refine TDK.call' (T_lor [if a then 1 else 0, if b then 1 else 0] (by show 2 < _; omega)) (by simp [h1, h2, e2]) ?_ | refine GTK.call (fun _ => ⟨T_lor [if a then 1 else 0, if b then 1 else 0] (by show 2 < _; omega), by simp [h1, h2, e2]⟩) ?_ | refine TS.call (T_lor [if a then 1 else 0, if b then 1 else 0] (by show 2 < _; omega)) (by simp [h1, h2, e2]) ?_ | refine TDK.call (T_lor [if a then 1 else 0, if b then 1 else 0] (by show 2 < _; omega)) (by simp [h1, h2, e2]) ?_); simp [h1, h2, e2]
    (first | refine TS.call' (T_lis (if a || b then 1 else 0)) (by simp [h1, h2, e2]) ?_ | refine TDK.call' (T_lis (if a || b then 1 else 0)) (by simp [h1, h2, e2]) ?_ | refine GTK.call (fun _ => ⟨T_lis (if a || b then 1 else 0), by simp [h1, h2, e2]⟩) ?_ | refine TS.call (T_lis (if a || b then 1 else 0)) (by simp [h1, h2, e2]) ?_ | refine TDK.call (T_lis (if a || b then 1 else 0)) (by simp [h1, h2, e2]) ?_); simp [h1, h2, e2]
    (first | refine TS.call' (T_lof a) (by simp [h1, h2]) ?_ | refine TDK.call' (T_lof a) (by simp [h1, h2]) ?_ | refine GTK.call (fun _ => ⟨T_lof a, by simp [h1, h2]⟩) ?_ | refine TS.call (T_lof a) (by simp [h1, h2]) ?_ | refine TDK.call (T_lof a) (by simp [h1, h2]) ?_); simp [h1, h2]
    (first | refine TS.call' (T_lnot (if a then 1 else 0)) (by simp [h1, h2, e3]) ?_ | refine TDK.call' (T_lnot (if a then 1 else 0)) (by simp [h1, h2, e3]) ?_ | refine GTK.call (fun _ => ⟨T_lnot (if a then 1 else 0), by simp [h1, h2, e3]⟩) ?_ | refine TS.call (T_lnot (if a then 1 else 0)) (by simp [h1, h2, e3]) ?_ | refine TDK.call (T_lnot (if a then 1 else 0)) (by simp [h1, h2, e3]) ?_); simp [h1, h2, e3]
    (first | refine TS.call' (T_lis (if a then 0 else 1)) (by simp [h1, h2, e3, h0, h7, h8]) ?_ | refine TDK.call' (T_lis (if a then 0 else 1)) (by simp [h1, h2, e3, h0, h7, h8]) ?_ | refine GTK.call (fun _ => ⟨T_lis (if a then 0 else 1), by simp [h1, h2, e3, h0, h7, h8]⟩) ?_ | refine TS.call (T_lis (if a then 0 else 1)) (by simp [h1, h2, e3, h0, h7, h8]) ?_ | refine TDK.call (T_lis (if a then 0 else 1)) (by simp [h1, h2, e3, h0, h7, h8]) ?_); simp [h1, h2, e3, h0, h7, h8]
    (first | refine TS.call' (T_land l hl) (by simp [h1, h2, h0, h7, h8]) ?_ | refine TDK.call' (T_land l hl) (by simp [h1, h2, h0, h7, h8]) ?_ | refine GTK.call (fun _ => ⟨T_land l hl, by simp [h1, h2, h0, h7, h8]⟩) ?_ | refine TS.call (T_land l hl) (by simp [h1, h2, h0, h7, h8]) ?_ | refine TDK.call (T_land l hl) (by simp [h1, h2, h0, h7, h8]) ?_); simp [h1, h2, h0, h7, h8]
    (first | refine TS.call' (T_lnot (andT l)) (by simp [h1, h2, h0, h7, h8]) ?_ | refine TDK.call' (T_lnot (andT l)) (by simp [h1, h2, h0, h7, h8]) ?_ | refine GTK.call (fun _ => ⟨T_lnot (andT l), by simp [h1, h2, h0, h7, h8]⟩) ?_ | refine TS.call (T_lnot (andT l)) (by simp [h1, h2, h0, h7, h8]) ?_ | refine TDK.call (T_lnot (andT l)) (by simp [h1, h2, h0, h7, h8]) ?_); simp [h1, h2, h0, h7, h8]
    (first | refine TS.call' (T_lor (l.map notT) hln) (by simp [h1, h2, h0, h7, h8, e4]) ?_ | refine TDK.call' (T_lor (l.map notT) hln) (by simp [h1, h2, h0, h7, h8, e4]) ?_ | refine GTK.call (fun _ => ⟨T_lor (l.map notT) hln, by simp [h1, h2, h0, h7, h8, e4]⟩) ?_ | refine TS.call (T_lor (l.map notT) hln) (by simp [h1, h2, h0, h7, h8, e4]) ?_ | refine TDK.call (T_lor (l.map notT) hln) (by simp [h1, h2, h0, h7, h8, e4]) ?_); simp [h1, h2, h0, h7, h8, e4]
    (first | refine TS.call' (T_land l.reverse hlr) (by simp [h1, h2, h0, h7, h8, ha]) ?_ | refine TDK.call' (T_land l.reverse hlr) (by simp [h1, h2, h0, h7, h8, ha]) ?_ | refine GTK.call (fun _ => ⟨T_land l.reverse hlr, by simp [h1, h2, h0, h7, h8, ha]⟩) ?_ | refine TS.call (T_land l.reverse hlr) (by simp [h1, h2, h0, h7, h8, ha]) ?_ | refine TDK.call (T_land l.reverse hlr) (by simp [h1, h2, h0, h7, h8, ha]) ?_); simp [h1, h2, h0, h7, h8, ha]
    (first | refine TS.call' (T_land l hl) (by simp [h1, h2, h0, h7, h8, ha]) ?_ | refine TDK.call' (T_land l hl) (by simp [h1, h2, h0, h7, h8, ha]) ?_ | refine GTK.call (fun _ => ⟨T_land l hl, by simp [h1, h2, h0, h7, h8, ha]⟩) ?_ | refine TS.call (T_land l hl) (by simp [h1, h2, h0, h7, h8, ha]) ?_ | refine TDK.call (T_land l hl) (by simp [h1, h2, h0, h7, h8, ha]) ?_); simp [h1, h2, h0, h7, h8, ha]
    (first | refine TS.call' (T_lor l.reverse hlr) (by simp [h1, h2, h0, h7, h8, ho]) ?_ | refine TDK.call' (T_lor l.reverse hlr) (by simp [h1, h2, h0, h7, h8, ho]) ?_ | refine GTK.call (fun _ => ⟨T_lor l.reverse hlr, by simp [h1, h2, h0, h7, h8, ho]⟩) ?_ | refine TS.call (T_lor l.reverse hlr) (by simp [h1, h2, h0, h7, h8, ho]) ?_ | refine TDK.call (T_lor l.reverse hlr) (by simp [h1, h2, h0, h7, h8, ho]) ?_); simp [h1, h2, h0, h7, h8, ho]
    (first | refine TS.call' (T_lor l hl) (by simp [h1, h2, h0, h7, h8, ho]) ?_ | refine TDK.call' (T_lor l hl) (by simp [h1, h2, h0, h7, h8, ho]) ?_ | refine GTK.call (fun _ => ⟨T_lor l hl, by simp [h1, h2, h0, h7, h8, ho]⟩) ?_ | refine TS.call (T_lor l hl) (by simp [h1, h2, h0, h7, h8, ho]) ?_ | refine TDK.call (T_lor l hl) (by simp [h1, h2, h0, h7, h8, ho]) ?_); simp [h1, h2, h0, h7, h8, ho]
    (first | refine TS.call' (T_live02) (by simp) ?_ | refine TDK.call' (T_live02) (by simp) ?_ | refine GTK.call (fun _ => ⟨T_live02, by simp⟩) ?_ | refine TS.call (T_live02) (by simp) ?_ | refine TDK.call (T_live02) (by simp) ?_); simp
theorem S_LogicLaws {xs : List AV} (h : ShA Try.prog [37, 4, 4] xs) : T Try.prog 8 xs (.bool true) := by
  obtain ⟨y, r, rfl, h1, h⟩ := h.cons_of ag_37
  obtain ⟨z, r, rfl, h2, h⟩ := h.cons_of ag_4
  obtain ⟨u, r, rfl, h3, h⟩ := h.cons_of ag_4
  obtain rfl := h.nil_of
  obtain ⟨ys, rfl, hy, _⟩ := h1.sl_of un_37 ag_3
  obtain ⟨l, e, _, _⟩ := list_in (f := fun n : Int => AV.int .i64 n) (g := mkAV false) (Q := fun _ => True) (fun y hy' => by
    obtain ⟨n, rfl, _⟩ := (hy y hy').int_of un_3
    exact ⟨n, rfl, trivial⟩)
  obtain ⟨a, rfl⟩ := h2.bool_of un_4
  obtain ⟨b, rfl⟩ := h3.bool_of un_4
  rw [e]
  exact T_LogicLaws l a b
end Go.Proofs.Ytgmhmdmfnmlhmaa.PL
