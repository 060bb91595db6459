/- Trees by their parents: the reference's ways, another root, and all that is told. -/
import Derived.Test.YtahpoodcmeoabaaFJt5
namespace Go.Proofs.Ytahpoodcmeoabaa.PL
open Go.Proofs
set_option linter.unusedVariables false
set_option linter.unusedSimpArgs false
theorem filter_next {x : List Int} {p : Int → Bool} {i : Nat} (h : i < x.length) : (x.take (i + 1)).filter p = (x.take i).filter p ++ if p x[i] = true then [x[i]] else [] := by
  rw [take_next h, List.filter_append]
  by_cases c : p x[i] = true <;> simp [c]
theorem Grow1.add {H : List HO} {x : AV} {l : List Int} {a : Int} {t : Nat} (ht : H[t]? = some (.spare (ints' l).length 1)) : Grow1 1 (H.set t (.spare (l.length + 1) 1)) (.sl (.tok t) (ints' (l ++ [a]))) (ints' (l ++ [a])) :=
  Grow1.more (f := AV.int .i64) (l := l) (a := a) (n := l.length + 1) ht rfl
set_option maxRecDepth 4000 in
set_option maxHeartbeats 1000000 in
theorem T_rpath23 (ps : List Int) (a b : Int) (hl : ps.length ≤ 1000000) : T Try.prog 28 [.sl .no (ints' ps), .int .i64 a, .int .i64 b] (.sl .no (ints' (pathR (upI (heldI ps) a) (upI (heldI ps) b)))) := by
  have kh := T_jrheld ps hl
  have hql := heldI_len ps
  have ka := T_rup (heldI ps) a (by omega)
  have kb := T_rup (heldI ps) b (by omega)
  have hxl : (upI (heldI ps) a).length ≤ (heldI ps).length := upF_len _ _
  have hyl : (upI (heldI ps) b).length ≤ (heldI ps).length := upF_len _ _
  generalize upI (heldI ps) a = x at *
  generalize upI (heldI ps) b = y at *
  generalize heldI ps = q at *
  refine T.introF (TS.body mix Try.func28 (by kernel_rfl) rfl (by kernel_rfl) (by simp) ?_)
  simp
  refine TS.callW kh (Dws.self (by simp)) ?_
  simp
  refine TS.callW ka (Dws.self (by simp)) ?_
  simp
  refine TS.callW kb (Dws.self (by simp)) ?_
  by_cases hx0 : x = []
  · subst hx0
    simp [pathR]
    exact Frz.slN (f := AV.int .i64) (l := [])
  by_cases hy0 : y = []
  · subst hy0
    simp [hx0, pathR]
    exact Frz.slN (f := AV.int .i64) (l := [])
  have hx1 : ¬ (x.length : Int) = 0 := by have := List.length_pos_iff.2 hx0; omega
  have hy1 : ¬ (y.length : Int) = 0 := by have := List.length_pos_iff.2 hy0; omega
  have hR : pathR x y = x.filter (fun v => !decide (v ∈ y)) ++ ((x.find? fun v => decide (v ∈ y)).toList ++ y.reverse.filter (fun v => !decide (v ∈ x))) := by
    unfold pathR
    rw [if_neg (by simp [hx0, hy0])]
  obtain ⟨RR, hRR⟩ : ∃ RR, RR = pathR x y := ⟨_, rfl⟩
  rw [← hRR]
  rw [hR] at hRR
  obtain ⟨fy, hfy⟩ : ∃ fy : Nat → List Int, ∀ s, fy s = (y.reverse.take s).filter fun v => !decide (v ∈ x) := ⟨_, fun _ => rfl⟩
  have hfe : fy y.length = y.reverse.filter (fun v => !decide (v ∈ x)) := by rw [hfy, List.take_of_length_le (by simp)]
  have hfl : ∀ s, s ≤ y.length → (fy s).length ≤ s := fun s hs => by rw [hfy]; exact Nat.le_trans (List.length_filter_le _ _) (by simp; omega)
  have hf0 : fy 0 = [] := by rw [hfy]; simp
  rw [← hfe] at hRR
  simp [hx0, hx1, hy0, hy1]
  obtain ⟨P, hP⟩ : ∃ P, P = x.filter (fun v => !decide (v ∈ y)) := ⟨_, rfl⟩
  have hPl : P.length ≤ x.length := by rw [hP]; exact List.length_filter_le _ _
  refine vc_loop (fun i : Nat => x.length - i) (fun i e H => e 8 = .sl .no (ints' x) ∧ e 9 = .sl .no (ints' y) ∧ e 11 = .int .i64 i ∧ i ≤ x.length ∧ Grow1 1 H (e 10) (ints' ((x.take i).filter fun v => !decide (v ∈ y)))) 0 ?_ ?_
  · simp
    exact .inl ⟨rfl, rfl⟩
  rintro i e H ⟨e8, e9, e11, hi, hg⟩
  by_cases hlt : i < x.length
  · have ew := wrap_next hlt (by omega)
    have kh := T_has21 y x[i] (by omega)
    have hnx := filter_next (p := fun v => !decide (v ∈ y)) hlt
    have hfl : ((x.take i).filter fun v => !decide (v ∈ y)).length ≤ i := Nat.le_trans (List.length_filter_le _ _) (by simp; omega)
    simp [e8, e9, e11, hlt]
    refine TS.callW kh (Dws.self (by simp)) ?_
    by_cases c : x[i] ∈ y
    · rw [if_neg (by simpa using c), List.append_nil] at hnx
      simp [e8, e9, e11, hlt, c]
      exact ⟨i + 1, by omega, ew, by omega, by simpa [hnx] using hg⟩
    · rw [if_pos (by simpa using c)] at hnx
      rcases hg with ⟨ge, hg⟩ | ⟨t, hg, ht⟩
      · rw [avs_eq_nil] at ge
        simp [e8, e9, e11, hlt, c, hg]
        refine ⟨i + 1, by omega, ew, by omega, ?_⟩
        rw [hnx, ge]
        exact Grow1.first (f := AV.int .i64) (l := []) rfl rfl
      · simp [e8, e9, e11, hlt, c, hg, ht]
        refine ⟨⟨by omega, by omega⟩, i + 1, by omega, ew, by omega, ?_⟩
        rw [hnx]
        exact Grow1.add (x := .any) ht
  have hil : i = x.length := by omega
  rw [hil, List.take_length, ← hP] at hg
  rw [hil] at e11
  rw [← hP] at hRR
  simp [e8, e9, e11]
  clear hlt hil hi e11 i
  -- the first one that both have
  obtain ⟨F, hF⟩ : ∃ F, F = x.find? fun v => decide (v ∈ y) := ⟨_, rfl⟩
  rw [← hF] at hRR
  refine vc_loop (fun i : Nat => x.length - i) (fun i e H => e 8 = .sl .no (ints' x) ∧ e 9 = .sl .no (ints' y) ∧ e 12 = .int .i64 i ∧ i ≤ x.length ∧ Grow1 1 H (e 10) (ints' P) ∧ ∀ j (h : j < x.length), j < i → decide (x[j] ∈ y) = false) 0 ?_ ?_
  · simp [e8, e9]
    exact hg
  clear e8 e9 hg e H
  rintro i e H ⟨e8, e9, e12, hi, hg, hno⟩
  have w0 : IntKind.i64.wrap ((y.length : Int) - 1) = (y.length : Int) - 1 := wrap_i64 (by omega) (by omega)
  by_cases hlt : i < x.length
  case neg =>
    have hFn : F = none := by
      rw [hF, List.find?_eq_none]
      intro v hv
      obtain ⟨j, hj, rfl⟩ := List.getElem_of_mem hv
      have := hno j hj (by omega)
      simpa using this
    obtain ⟨Q, hQ⟩ : ∃ Q, Q = P := ⟨_, rfl⟩
    have hRR2 : RR = Q ++ fy y.length := by rw [hRR, hFn, hQ]; simp
    have hQl : Q.length ≤ x.length + 1 := by rw [hQ]; omega
    rw [← hQ] at hg
    simp [e8, e9, e12, hlt, w0]
    refine vc_loop (fun s : Nat => y.length - s) (fun s e H => e 8 = .sl .no (ints' x) ∧ e 9 = .sl .no (ints' y) ∧ e 13 = .int .i64 ((y.length : Int) - 1 - s) ∧ s ≤ y.length ∧ Grow1 1 H (e 10) (ints' (Q ++ fy s))) 0 ?_ ?_
    · simp [e8, e9, hf0]
      exact hg
    clear e8 e9 e12 hg e
    rintro s e H ⟨e8, e9, e13, hs, hg⟩
    have hal : (Q ++ fy s).length ≤ x.length + 1 + s := by rw [List.length_append]; have := hfl s hs; omega
    by_cases hst : s < y.length
    · have hsr : s < y.reverse.length := by simpa using hst
      obtain ⟨k, hk⟩ : ∃ k : Nat, (y.length : Int) - 1 - s = k := ⟨y.length - 1 - s, by omega⟩
      have hky : k < y.length := by omega
      have hyk : y.reverse[s] = y[k] := by rw [List.getElem_reverse]; congr 1; omega
      have kx := T_has21 x y[k] (by omega)
      have hnx : fy (s + 1) = fy s ++ if (!decide (y[k] ∈ x)) = true then [y[k]] else [] := by
        rw [hfy, hfy, ← hyk]
        exact filter_next (p := fun v => !decide (v ∈ x)) hsr
      have ews : IntKind.i64.wrap ((k : Int) - 1) = (y.length : Int) - 1 - ((s + 1 : Nat) : Int) := by rw [wrap_i64 (by omega) (by omega)]; omega
      rw [hk] at e13
      simp [e8, e9, e13, hky]
      refine TS.callW kx (Dws.self (by simp)) ?_
      by_cases c : y[k] ∈ x
      · rw [if_neg (by simpa using c), List.append_nil] at hnx
        simp [e8, e9, e13, hky, c]
        exact ⟨s + 1, by omega, ews, by omega, by rw [hnx]; exact hg⟩
      · rw [if_pos (by simpa using c)] at hnx
        have hnx2 : Q ++ fy (s + 1) = (Q ++ fy s) ++ [y[k]] := by rw [hnx, List.append_assoc]
        obtain ⟨Z, hZ⟩ : ∃ Z, Z = Q ++ fy s := ⟨_, rfl⟩
        rw [← hZ] at hg hnx2 hal
        rcases hg with ⟨ge, hg⟩ | ⟨t, hg, ht⟩
        · rw [avs_eq_nil] at ge
          simp [e8, e9, e13, hky, c, hg]
          refine ⟨s + 1, by omega, ews, by omega, ?_⟩
          rw [hnx2, ge]
          exact Grow1.first (f := AV.int .i64) (l := []) rfl rfl
        · simp [e8, e9, e13, hky, c, hg, ht]
          refine ⟨⟨by omega, by omega⟩, s + 1, by omega, ews, by omega, ?_⟩
          rw [hnx2]
          exact Grow1.add (x := .any) ht
    · have hse : s = y.length := by omega
      have hm1 : ¬ (s : Int) ≤ (y.length : Int) - 1 := by omega
      have hres : Q ++ fy s = RR := by rw [hse, hRR2]
      rw [hres] at hg
      simp [e8, e9, e13, hm1]
      obtain ⟨own, ho⟩ := hg.own
      rw [ho]
      exact Frz.slN
  have ew := wrap_next hlt (by omega)
  have kx0 := T_has21 y x[i] (by omega)
  by_cases c0 : x[i] ∈ y
  case neg =>
    simp [e8, e9, e12, hlt]
    refine TS.callW kx0 (Dws.self (by simp)) ?_
    simp [e8, e9, e12, hlt, c0]
    refine ⟨i + 1, by omega, ew, by omega, hg, fun j hj hji => ?_⟩
    rcases Nat.lt_or_ge j i with h2 | h2
    · simpa using hno j hj h2
    · have : j = i := by omega
      subst this; exact c0
  have hFs : F = some x[i] := by
    rw [hF]
    exact find_get (q := fun v => decide (v ∈ y)) hlt (by simpa using c0) hno
  obtain ⟨Q, hQ⟩ : ∃ Q, Q = P ++ [x[i]] := ⟨_, rfl⟩
  have hRR2 : RR = Q ++ fy y.length := by rw [hRR, hFs, hQ]; simp
  have hQl : Q.length ≤ x.length + 1 := by rw [hQ, List.length_append, List.length_singleton]; omega
  simp [e8, e9, e12, hlt]
  refine TS.callW kx0 (Dws.self (by simp)) ?_
  have hg2 : (P = [] ∧ e 10 = .sl .nil []) ∨ ∃ t, e 10 = .sl (.tok t) (ints' P) ∧ H[t]? = some (.spare (ints' P).length 1) := by
    rcases hg with ⟨ge, hg⟩ | h
    · exact .inl ⟨by rwa [avs_eq_nil] at ge, hg⟩
    · exact .inr h
  clear hg
  rcases hg2 with ⟨ge, hg⟩ | ⟨t0, hg, ht⟩
  · have hst := Grow1.first (sz := 1) (f := AV.int .i64) (l := P) (a := x[i]) (H := H) (k := H.length) ge rfl
    rw [← hQ] at hst
    simp [e8, e9, e12, hlt, c0, hg, w0]
    refine vc_loop (fun s : Nat => y.length - s) (fun s e H => e 8 = .sl .no (ints' x) ∧ e 9 = .sl .no (ints' y) ∧ e 13 = .int .i64 ((y.length : Int) - 1 - s) ∧ s ≤ y.length ∧ Grow1 1 H (e 10) (ints' (Q ++ fy s))) 0 ?_ ?_
    · simp [e8, e9, hf0]
      exact hst
    clear e8 e9 e12 hg e
    rintro s e H ⟨e8, e9, e13, hs, hg⟩
    have hal : (Q ++ fy s).length ≤ x.length + 1 + s := by rw [List.length_append]; have := hfl s hs; omega
    by_cases hst : s < y.length
    · have hsr : s < y.reverse.length := by simpa using hst
      obtain ⟨k, hk⟩ : ∃ k : Nat, (y.length : Int) - 1 - s = k := ⟨y.length - 1 - s, by omega⟩
      have hky : k < y.length := by omega
      have hyk : y.reverse[s] = y[k] := by rw [List.getElem_reverse]; congr 1; omega
      have kx := T_has21 x y[k] (by omega)
      have hnx : fy (s + 1) = fy s ++ if (!decide (y[k] ∈ x)) = true then [y[k]] else [] := by
        rw [hfy, hfy, ← hyk]
        exact filter_next (p := fun v => !decide (v ∈ x)) hsr
      have ews : IntKind.i64.wrap ((k : Int) - 1) = (y.length : Int) - 1 - ((s + 1 : Nat) : Int) := by rw [wrap_i64 (by omega) (by omega)]; omega
      rw [hk] at e13
      simp [e8, e9, e13, hky]
      refine TS.callW kx (Dws.self (by simp)) ?_
      by_cases c : y[k] ∈ x
      · rw [if_neg (by simpa using c), List.append_nil] at hnx
        simp [e8, e9, e13, hky, c]
        exact ⟨s + 1, by omega, ews, by omega, by rw [hnx]; exact hg⟩
      · rw [if_pos (by simpa using c)] at hnx
        have hnx2 : Q ++ fy (s + 1) = (Q ++ fy s) ++ [y[k]] := by rw [hnx, List.append_assoc]
        obtain ⟨Z, hZ⟩ : ∃ Z, Z = Q ++ fy s := ⟨_, rfl⟩
        rw [← hZ] at hg hnx2 hal
        rcases hg with ⟨ge, hg⟩ | ⟨t, hg, ht⟩
        · rw [avs_eq_nil] at ge
          simp [e8, e9, e13, hky, c, hg]
          refine ⟨s + 1, by omega, ews, by omega, ?_⟩
          rw [hnx2, ge]
          exact Grow1.first (f := AV.int .i64) (l := []) rfl rfl
        · simp [e8, e9, e13, hky, c, hg, ht]
          refine ⟨⟨by omega, by omega⟩, s + 1, by omega, ews, by omega, ?_⟩
          rw [hnx2]
          exact Grow1.add (x := .any) ht
    · have hse : s = y.length := by omega
      have hm1 : ¬ (s : Int) ≤ (y.length : Int) - 1 := by omega
      have hres : Q ++ fy s = RR := by rw [hse, hRR2]
      rw [hres] at hg
      simp [e8, e9, e13, hm1]
      obtain ⟨own, ho⟩ := hg.own
      rw [ho]
      exact Frz.slN
  · have hst := Grow1.add (x := .any) (a := x[i]) ht
    rw [← hQ] at hst
    simp [e8, e9, e12, hlt, c0, hg, ht, w0]
    refine ⟨⟨by omega, by omega⟩, ?_⟩
    rw [← hQ]
    refine vc_loop (fun s : Nat => y.length - s) (fun s e H => e 8 = .sl .no (ints' x) ∧ e 9 = .sl .no (ints' y) ∧ e 13 = .int .i64 ((y.length : Int) - 1 - s) ∧ s ≤ y.length ∧ Grow1 1 H (e 10) (ints' (Q ++ fy s))) 0 ?_ ?_
    · simp [e8, e9, hf0]
      exact hst
    clear e8 e9 e12 hg e
    rintro s e H ⟨e8, e9, e13, hs, hg⟩
    have hal : (Q ++ fy s).length ≤ x.length + 1 + s := by rw [List.length_append]; have := hfl s hs; omega
    by_cases hst : s < y.length
    · have hsr : s < y.reverse.length := by simpa using hst
      obtain ⟨k, hk⟩ : ∃ k : Nat, (y.length : Int) - 1 - s = k := ⟨y.length - 1 - s, by omega⟩
      have hky : k < y.length := by omega
      have hyk : y.reverse[s] = y[k] := by rw [List.getElem_reverse]; congr 1; omega
      have kx := T_has21 x y[k] (by omega)
      have hnx : fy (s + 1) = fy s ++ if (!decide (y[k] ∈ x)) = true then [y[k]] else [] := by
        rw [hfy, hfy, ← hyk]
        exact filter_next (p := fun v => !decide (v ∈ x)) hsr
      have ews : IntKind.i64.wrap ((k : Int) - 1) = (y.length : Int) - 1 - ((s + 1 : Nat) : Int) := by rw [wrap_i64 (by omega) (by omega)]; omega
      rw [hk] at e13
      simp [e8, e9, e13, hky]
      refine TS.callW kx (Dws.self (by simp)) ?_
      by_cases c : y[k] ∈ x
      · rw [if_neg (by simpa using c), List.append_nil] at hnx
        simp [e8, e9, e13, hky, c]
        exact ⟨s + 1, by omega, ews, by omega, by rw [hnx]; exact hg⟩
      · rw [if_pos (by simpa using c)] at hnx
        have hnx2 : Q ++ fy (s + 1) = (Q ++ fy s) ++ [y[k]] := by rw [hnx, List.append_assoc]
        obtain ⟨Z, hZ⟩ : ∃ Z, Z = Q ++ fy s := ⟨_, rfl⟩
        rw [← hZ] at hg hnx2 hal
        rcases hg with ⟨ge, hg⟩ | ⟨t, hg, ht⟩
        · rw [avs_eq_nil] at ge
          simp [e8, e9, e13, hky, c, hg]
          refine ⟨s + 1, by omega, ews, by omega, ?_⟩
          rw [hnx2, ge]
          exact Grow1.first (f := AV.int .i64) (l := []) rfl rfl
        · simp [e8, e9, e13, hky, c, hg, ht]
          refine ⟨⟨by omega, by omega⟩, s + 1, by omega, ews, by omega, ?_⟩
          rw [hnx2]
          exact Grow1.add (x := .any) ht
    · have hse : s = y.length := by omega
      have hm1 : ¬ (s : Int) ≤ (y.length : Int) - 1 := by omega
      have hres : Q ++ fy s = RR := by rw [hse, hRR2]
      rw [hres] at hg
      simp [e8, e9, e13, hm1]
      obtain ⟨own, ho⟩ := hg.own
      rw [ho]
      exact Frz.slN
end Go.Proofs.Ytahpoodcmeoabaa.PL
