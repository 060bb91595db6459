/- Join trees: the reference; and parents by ears. -/
import Derived.Test.YtahpoodcmeoabaaFGyo6
namespace Go.Proofs.Ytahpoodcmeoabaa.PL
open Go.Proofs
set_option linter.unusedVariables false
set_option linter.unusedSimpArgs false
def meetI (x y : List Int) : Int := match x.find? (fun v => decide (v ∈ y)) with | some v => v | none => -1
def pathI (ps : List Int) (a b n : Int) : Bool := (decide (n ∈ upI ps a) || decide (n ∈ upI ps b)) && decide (meetI (upI ps a) (upI ps b) ∈ upI ps n)
theorem find_get {x : List Int} {q : Int → Bool} {i : Nat} (hi : i < x.length) (hq : q x[i] = true) (hno : ∀ j (h : j < x.length), j < i → q x[j] = false) : x.find? q = some x[i] := by
  rw [List.find?_eq_some_iff_append]
  refine ⟨hq, x.take i, x.drop (i + 1), by rw [← List.drop_eq_getElem_cons hi, List.take_append_drop], fun a ha => ?_⟩
  obtain ⟨j, hj, rfl⟩ := List.getElem_of_mem ha
  rw [List.length_take] at hj
  rw [List.getElem_take]
  simp [hno j (by omega) (by omega)]
set_option maxRecDepth 4000 in
theorem T_rpath (ps : List Int) (a b n : Int) (hl : ps.length ≤ 1000000) : T Try.prog 121 [.sl .no (ints' ps), .int .i64 a, .int .i64 b, .int .i64 n] (.bool (pathI ps a b n)) := by
  have ka := T_rup ps a hl
  have kb := T_rup ps b hl
  have kn := T_rup ps n hl
  have hla : (upI ps a).length ≤ ps.length := upF_len _ _
  have hlb : (upI ps b).length ≤ ps.length := upF_len _ _
  have hln : (upI ps n).length ≤ ps.length := upF_len _ _
  have hma : ∀ x, x ∈ upI ps a → 0 ≤ x := fun x hx => (upF_mem hx).1
  have hp : pathI ps a b n = ((decide (n ∈ upI ps a) || decide (n ∈ upI ps b)) && decide (meetI (upI ps a) (upI ps b) ∈ upI ps n)) := rfl
  generalize pathI ps a b n = r at *
  generalize upI ps a = A at *
  generalize upI ps b = B at *
  generalize upI ps n = N at *
  refine T.intro (TS.body mix Try.func121 (by kernel_rfl) rfl (by kernel_rfl) (by simp) ?_)
  simp
  refine TS.callW ka (Dws.self (by simp)) ?_
  simp
  refine TS.callW kb (Dws.self (by simp)) ?_
  simp
  refine vc_loop (fun i : Nat => A.length - i) (fun i e H => e 0 = .sl .no (ints' ps) ∧ e 3 = .int .i64 n ∧ e 9 = .sl .no (ints' A) ∧ e 10 = .sl .no (ints' B) ∧ e 12 = .int .i64 i ∧ i ≤ A.length ∧
    ((e 11 = .int .i64 (-1) ∧ ∀ j (h : j < A.length), j < i → decide (A[j] ∈ B) = false) ∨ (∃ m : Int, e 11 = .int .i64 m ∧ 0 ≤ m ∧ m = meetI A B))) 0 ?_ ?_
  · simp
  rintro i e H ⟨e0, e3, e9, e10, e12, hi, hc⟩
  have kha := T_has21 A n (by omega)
  have khb := T_has21 B n (by omega)
  have stop : (A.length ≤ i ∨ ∃ m : Int, e 11 = .int .i64 m ∧ 0 ≤ m ∧ m = meetI A B) → ∃ m : Int, e 11 = .int .i64 m ∧ m = meetI A B ∧ (A.length ≤ i ∨ 0 ≤ m) := by
    rintro (h | ⟨m, h1, h2, h3⟩)
    · rcases hc with ⟨h1, h2⟩ | ⟨m, h1, h2, h3⟩
      · refine ⟨-1, h1, ?_, .inl h⟩
        unfold meetI
        have : A.find? (fun v => decide (v ∈ B)) = none := by
          rw [List.find?_eq_none]
          intro x hx
          obtain ⟨j, hj, rfl⟩ := List.getElem_of_mem hx
          have := h2 j hj (by omega)
          simpa using this
        rw [this]
      · exact ⟨m, h1, h3, .inl h⟩
    · exact ⟨m, h1, h3, .inr h2⟩
  by_cases hs : A.length ≤ i ∨ ∃ m : Int, e 11 = .int .i64 m ∧ 0 ≤ m ∧ m = meetI A B
  · obtain ⟨m, e11, hm, hs⟩ := stop hs
    have khn := T_has21 N m (by omega)
    rw [hp, ← hm]
    by_cases h1 : i < A.length
    · have h2 : ¬ m < 0 := by omega
      simp [e0, e3, e9, e10, e11, e12, h1, h2]
      refine TS.callW kn (Dws.self (by simp)) ?_
      simp [e0, e3, e9, e10, e11, e12]
      refine TS.callW kha (Dws.self (by simp)) ?_
      simp [e0, e3, e9, e10, e11, e12]
      refine GTK.callW (fun _ => ⟨khb, Dws.self (by simp)⟩) ?_
      simp [e0, e3, e9, e10, e11, e12]
      refine GTK.callW (fun _ => ⟨khn, Dws.self (by simp)⟩) ?_
      by_cases g1 : n ∈ A
      · simp [e0, e3, e9, e10, e11, e12, g1]
      · by_cases g2 : n ∈ B <;> simp [e0, e3, e9, e10, e11, e12, g1, g2]
    · simp [e0, e3, e9, e10, e11, e12, h1]
      refine TS.callW kn (Dws.self (by simp)) ?_
      simp [e0, e3, e9, e10, e11, e12]
      refine TS.callW kha (Dws.self (by simp)) ?_
      simp [e0, e3, e9, e10, e11, e12]
      refine GTK.callW (fun _ => ⟨khb, Dws.self (by simp)⟩) ?_
      simp [e0, e3, e9, e10, e11, e12]
      refine GTK.callW (fun _ => ⟨khn, Dws.self (by simp)⟩) ?_
      by_cases g1 : n ∈ A
      · simp [e0, e3, e9, e10, e11, e12, g1]
      · by_cases g2 : n ∈ B <;> simp [e0, e3, e9, e10, e11, e12, g1, g2]
  · have hlt : i < A.length := by
      rcases Nat.lt_or_ge i A.length with h | h
      · exact h
      · exact absurd (.inl h) hs
    rcases hc with ⟨e11, hno⟩ | h
    case inr => exact absurd (.inr h) hs
    have ew := wrap_next hlt (by omega)
    have kx := T_has21 B A[i] (by omega)
    simp [e0, e3, e9, e10, e11, e12, hlt]
    refine TS.callW kx (Dws.self (by simp)) ?_
    by_cases g : A[i] ∈ B
    · simp [e0, e3, e9, e10, e11, e12, hlt, g]
      have hmt : A[i] = meetI A B := by
        unfold meetI
        rw [find_get (q := fun v => decide (v ∈ B)) hlt (by simpa using g) hno]
      exact ⟨i + 1, by omega, ew, by omega, .inr ⟨hmt, by rw [← hmt]; exact hma _ (List.getElem_mem hlt)⟩⟩
    · simp [e0, e3, e9, e10, e11, e12, hlt, g]
      refine ⟨i + 1, by omega, ew, by omega, .inl fun j hj hji => ?_⟩
      rcases Nat.lt_or_ge j i with h2 | h2
      · simpa using hno j hj h2
      · have : j = i := by omega
        subst this; exact g
/-- of the ways between the first nodes and one -/
def joinsP (h : List (List Int)) (ps : List Int) : Prop := ps.length = h.length ∧ treeI ps = true ∧ ∀ a b k : Nat, a < h.length → b < a → k < h.length → pathI ps a b k = true → withinI (sharedI (h.getD a []) (h.getD b [])) (h.getD k []) = true
noncomputable def joinsI (h : List (List Int)) (ps : List Int) : Bool := @decide (joinsP h ps) (Classical.propDecidable _)
theorem joinsI_iff {h : List (List Int)} {ps : List Int} : joinsI h ps = true ↔ joinsP h ps := by unfold joinsI; simp
theorem joinsI_no {h : List (List Int)} {ps : List Int} (hn : ¬ joinsP h ps) : joinsI h ps = false := by unfold joinsI; simp [hn]
set_option maxRecDepth 4000 in
theorem T_rjoins (h : List (List Int)) (ps : List Int) (hh : HsOk h) (hl : ps.length ≤ 1000000) : T Try.prog 53 [.sl .no (lists' h), .sl .no (ints' ps)] (.bool (joinsI h ps)) := by
  have hn := hh.n
  have hs := hh.s
  have kt := T_rtree ps hl
  refine T.intro (TS.body mix Try.func53 (by kernel_rfl) rfl (by kernel_rfl) (by simp) ?_)
  by_cases c1 : ps.length = h.length
  case neg =>
    have c2 : ¬ (ps.length : Int) = h.length := by omega
    rw [joinsI_no fun h => c1 h.1]
    simp [c2]
    refine GTK.callW (fun h => nomatch h) (ys := []) (r := .bool true) ?_
    simp
  cases c2 : treeI ps with
  | false =>
    rw [c2] at kt
    rw [joinsI_no fun hq => by have := hq.2.1; rw [c2] at this; cases this]
    simp [c1]
    refine GTK.callW (fun _ => ⟨kt, Dws.self (by simp)⟩) ?_
    simp
  | true =>
    rw [c2] at kt
    simp [c1]
    refine GTK.callW (fun _ => ⟨kt, Dws.self (by simp)⟩) ?_
    simp
    let ok : Nat → Nat → Nat → Prop := fun a b k => pathI ps a b k = true → withinI (sharedI (h.getD a []) (h.getD b [])) (h.getD k []) = true
    refine vc_loop (fun a : Nat => h.length - a) (fun a e H => e 0 = .sl .no (lists' h) ∧ e 1 = .sl .no (ints' ps) ∧ e 5 = .int .i64 a ∧ a ≤ h.length ∧ ∀ a' b k, a' < a → b < a' → k < h.length → ok a' b k) 0 ?_ ?_
    · simp
    rintro a e H ⟨e0, e1, e5, ha, hA⟩
    by_cases hat : a < h.length
    case neg =>
      have : a = h.length := by omega
      subst this
      rw [joinsI_iff.2 ⟨c1, c2, fun a b k h1 h2 h3 => hA a b k h1 h2 h3⟩]
      simp [e0, e1, e5]
    have ewa := wrap_next hat (by omega)
    simp [e0, e1, e5, hat]
    refine vc_loop (fun b : Nat => a - b) (fun b e H => e 0 = .sl .no (lists' h) ∧ e 1 = .sl .no (ints' ps) ∧ e 5 = .int .i64 a ∧ e 6 = .int .i64 b ∧ b ≤ a ∧ ∀ b' k, b' < b → k < h.length → ok a b' k) 0 ?_ ?_
    · simp [e0, e1, e5]
    clear e0 e1 e5 e H
    rintro b e H ⟨e0, e1, e5, e6, hb, hB⟩
    by_cases hbt : b < a
    case neg =>
      have : b = a := by omega
      subst this
      simp [e0, e1, e5, e6]
      refine ⟨b + 1, by omega, ewa, by omega, fun a' b' k h1 h2 h3 => ?_⟩
      rcases Nat.lt_or_ge a' b with h4 | h4
      · exact hA a' b' k h4 h2 h3
      · have : a' = b := by omega
        subst this
        exact hB b' k h2 h3
    have ewb := wrap_next hbt (by omega)
    have hbh : b < h.length := by omega
    simp [e0, e1, e5, e6, hbt]
    refine vc_loop (fun k : Nat => h.length - k) (fun k e H => e 0 = .sl .no (lists' h) ∧ e 1 = .sl .no (ints' ps) ∧ e 5 = .int .i64 a ∧ e 6 = .int .i64 b ∧ e 7 = .int .i64 k ∧ k ≤ h.length ∧ ∀ k', k' < k → ok a b k') 0 ?_ ?_
    · simp [e0, e1, e5, e6]
    clear e0 e1 e5 e6 e H
    rintro k e H ⟨e0, e1, e5, e6, e7, hk, hK⟩
    by_cases hkt : k < h.length
    case neg =>
      have : k = h.length := by omega
      subst this
      simp [e0, e1, e5, e6, e7]
      refine ⟨b + 1, by omega, ewb, by omega, fun b' k h1 h2 => ?_⟩
      rcases Nat.lt_or_ge b' b with h4 | h4
      · exact hB b' k h4 h2
      · have : b' = b := by omega
        subst this
        exact hK k h2
    have ewk := wrap_next hkt (by omega)
    have kp := T_rpath ps a b k hl
    have hsa := hs _ (List.getElem_mem hat)
    have hsb := hs _ (List.getElem_mem hbh)
    have hsk := hs _ (List.getElem_mem hkt)
    have ksh := T_rshared21 h[a] h[b] (by omega) (by omega)
    have hsl := sharedI_len h[a] h[b]
    have kw := T_rwithin21 (sharedI h[a] h[b]) h[k] (by omega) (by omega)
    have hok : ok a b k ↔ (pathI ps a b k = true → withinI (sharedI h[a] h[b]) h[k] = true) := by simp [ok, hat, hbh, hkt]
    have nx : ok a b k → ∀ k', k' < k + 1 → ok a b k' := by
      intro ho k' hk'
      rcases Nat.lt_or_ge k' k with h4 | h4
      · exact hK k' h4
      · have : k' = k := by omega
        subst this
        exact ho
    simp [e0, e1, e5, e6, e7, hkt]
    refine TDK.callW kp (Dws.self (by simp)) ?_
    cases g1 : pathI ps a b k with
    | false =>
      rw [g1] at hok
      simp [e0, e1, e5, e6, e7, hkt]
      refine GTK.callW (fun h => nomatch h) (ys := []) (r := .bool true) ?_
      simp [e0, e1, e5, e6, e7, hat, hbh, hkt]
      refine GTK.callW (fun h => nomatch h) (ys := []) (r := .bool true) ?_
      simp [e0, e1, e5, e6, e7, hat, hbh, hkt]
      exact ⟨k + 1, by omega, ewk, by omega, nx (hok.2 fun h => nomatch h)⟩
    | true =>
      rw [g1] at hok
      simp [e0, e1, e5, e6, e7, hat, hbh, hkt]
      refine GTK.callW (fun _ => ⟨ksh, Dws.self (by simp)⟩) ?_
      simp [e0, e1, e5, e6, e7, hat, hbh, hkt]
      refine GTK.callW (fun _ => ⟨kw, Dws.self (by simp)⟩) ?_
      cases g2 : withinI (sharedI h[a] h[b]) h[k] with
      | true =>
        simp [e0, e1, e5, e6, e7, hat, hbh, hkt]
        exact ⟨k + 1, by omega, ewk, by omega, nx (hok.2 fun _ => g2)⟩
      | false =>
        have : joinsI h ps = false := joinsI_no fun hj => by
          have := hok.1 (hj.2.2 a b k hat hbt hkt) rfl
          rw [g2] at this
          cases this
        rw [this]
        simp [e0, e1, e5, e6, e7, hat, hbh, hkt]
theorem earF_lt {h : List (List Int)} {left : List Bool} {i p : Nat} (he : earF h left i = some p) : p < h.length ∧ earQ h left i p = true := by
  unfold earF at he
  split at he
  · have h1 := List.find?_some he
    have h2 := List.mem_of_find?_eq_some he
    exact ⟨by simpa using h2, h1⟩
  · cases he
theorem earF_none {h : List (List Int)} {left : List Bool} {i : Nat} (he : earF h left i = none) (hl : left.getD i false = true) : ∀ p, p < h.length → earQ h left i p = false := by
  unfold earF at he
  rw [if_pos hl, List.find?_eq_none] at he
  intro p hp
  simpa using he p (by simpa using hp)
theorem ear1_some {h : List (List Int)} {left : List Bool} {i p : Nat} (he : ear1 h left = some (i, p)) : i < h.length ∧ earF h left i = some p := by
  unfold ear1 at he
  obtain ⟨k, hk, hq⟩ := List.exists_of_findSome?_eq_some he
  cases hr : earF h left k with
  | none => rw [hr] at hq; cases hq
  | some q =>
    rw [hr] at hq
    simp at hq
    obtain ⟨rfl, rfl⟩ := hq
    exact ⟨by simpa using hk, hr⟩
theorem ear1_none {h : List (List Int)} {left : List Bool} (he : ear1 h left = none) : ∀ i, i < h.length → earF h left i = none := by
  unfold ear1 at he
  rw [List.findSome?_eq_none_iff] at he
  intro i hi
  have := he i (by simpa using hi)
  simpa using this
theorem playF_lt {h : List (List Int)} : ∀ (m : Nat) (left : List Bool), ∀ x, x ∈ (playF h m left).1 → x.1 < h.length ∧ x.2 < h.length
  | 0, left, x, hx => by simp [playF] at hx
  | m + 1, left, x, hx => by
    rw [playF] at hx
    cases hq : ear1 h left with
    | none => rw [hq] at hx; simp at hx
    | some y =>
      obtain ⟨i, p⟩ := y
      rw [hq] at hx
      obtain ⟨h1, h2⟩ := ear1_some hq
      rcases List.mem_cons.1 hx with rfl | hx
      · exact ⟨h1, (earF_lt h2).1⟩
      · exact playF_lt m _ x hx
/-- each edge's parent -/
def parF (es : List (Nat × Nat)) (l : List Int) : List Int := es.foldl (fun l e => l.set e.1 (e.2 : Nat)) l
theorem parF_len (es : List (Nat × Nat)) : ∀ l : List Int, (parF es l).length = l.length := by
  induction es with
  | nil => intro l; rfl
  | cons e es ih => intro l; simp only [parF, List.foldl_cons] at *; rw [ih]; simp
theorem parF_snoc (es : List (Nat × Nat)) (e : Nat × Nat) (l : List Int) : parF (es ++ [e]) l = (parF es l).set e.1 (e.2 : Nat) := by
  unfold parF
  rw [List.foldl_append]
  rfl
def parI (h : List (List Int)) : List Int := parF (playI h).1 (List.replicate h.length (-1))
set_option maxRecDepth 4000 in
theorem T_parents (h : List (List Int)) (hh : HsOk h) : T Try.prog 33 [.sl .no (lists' h)] (.tup [.sl .no (ints' (if acyI h = true then parI h else [])), .bool (acyI h)]) := by
  have hn := hh.n
  have ka := T_gacyc h hh
  have ke := T_ears h hh
  have kr := S_repeatI [] (-1) h.length (by omega)
  have hlt0 := playF_lt (h := h) h.length (List.replicate h.length true)
  have hpl : playF h h.length (List.replicate h.length true) = playI h := rfl
  rw [hpl] at hlt0
  have hel := (playI_len h).2
  have hpar : parI h = parF (playI h).1 (List.replicate h.length (-1)) := rfl
  generalize parI h = PP at *
  generalize (playI h).1 = es at *
  refine T.introF (TS.body mix Try.func33 (by kernel_rfl) rfl (by kernel_rfl) (by simp) ?_)
  simp
  refine TS.callW ka (Dws.self (by simp)) ?_
  cases hac : acyI h with
  | false =>
    simp
    exact .tup (.cons (Frz.slN (f := AV.int .i64) (l := [])) (.cons (.cl (by simp)) .nil))
  | true =>
    simp
    refine TS.pt kr ?_
    simp
    refine TS.callW ke (Dws.self (by simp)) ?_
    simp
    refine vc_loop (fun k : Nat => es.length - k) (fun k e H => ∃ J, e 4 = .mv 0 h.length 1 0 h.length ∧ e 15 = slA earA es ∧ e 16 = .int .i64 es.length ∧ e 17 = .int .i64 k ∧ k ≤ es.length ∧ H = .row h.length 1 (ints' (parF (es.take k) (List.replicate h.length (-1)))) :: J) 0 ?_ ?_
    · refine ⟨[], ?_⟩
      simp [parF]
    rintro k e H ⟨J, e4, e15, e16, e17, hk, rfl⟩
    by_cases hlt : k < es.length
    · have ew := wrap_next hlt (by omega)
      have hb := hlt0 _ (List.getElem_mem hlt)
      have hnx := parF_snoc (es.take k) es[k] (List.replicate h.length (-1))
      rw [← take_next hlt] at hnx
      have hpl := parF_len (es.take k) (List.replicate h.length (-1))
      simp at hpl
      have hc : (earA es[k]).cells = [.int .i64 (es[k].1 : Nat), .int .i64 (es[k].2 : Nat)] := rfl
      simp [e4, e15, e16, e17, hlt, hc]
      refine ⟨hb.1, by omega, k + 1, by omega, ew, by omega, ?_⟩
      rw [hnx, List.set_eq_take_append_cons_drop, if_pos (by omega)]
    · have : k = es.length := by omega
      subst this
      rw [List.take_length, ← hpar]
      simp [e4, e15, e16, e17]
      refine .tup (.cons ?_ (.cons (.cl (by simp)) .nil))
      exact Frz.mvA (f := AV.int .i64) (sz := 1) (l := PP) (by simp) (by rw [hpar, parF_len]; simp)
end Go.Proofs.Ytahpoodcmeoabaa.PL
