/- Ears: the reference. -/
import Derived.Test.YtahpoodcmeoabaaFGyo3
namespace Go.Proofs.Ytahpoodcmeoabaa.PL
open Go.Proofs
set_option linter.unusedVariables false
set_option linter.unusedSimpArgs false
theorem withinI_iff {a b : List Int} : withinI a b = true ↔ ∀ v, v ∈ a → v ∈ b := by
  unfold withinI
  simp
theorem sharedI_mem {a b : List Int} {v : Int} : v ∈ sharedI a b ↔ v ∈ a ∧ v ∈ b := by
  unfold sharedI
  simp [List.mem_filter, setI_mem]
/-- is it so of the first n? -/
def allQ (h : List (List Int)) (left : List Bool) (i p : Nat) (n : Nat) : Bool := (List.range n).all fun k => decide (k = i) || (!left.getD k false || withinI (sharedI (h.getD i []) (h.getD k [])) (h.getD p []))
theorem outP_mem {h : List (List Int)} {left : List Bool} {i : Nat} {v : Int} : ∀ {n : Nat}, v ∈ outP h left i n ↔ ∃ k, k < n ∧ k ≠ i ∧ left.getD k false = true ∧ v ∈ sharedI (h.getD i []) (h.getD k [])
  | 0 => by simp [outP]
  | n + 1 => by
    rw [outP, List.mem_append, outP_mem (n := n)]
    constructor
    · rintro (⟨k, h1, h2⟩ | h1)
      · exact ⟨k, by omega, h2⟩
      · split at h1
        · rename_i hc; exact ⟨n, by omega, hc.1, hc.2, h1⟩
        · cases h1
    · rintro ⟨k, h1, h2, h3, h4⟩
      rcases Nat.lt_or_ge k n with h5 | h5
      · exact .inl ⟨k, h5, h2, h3, h4⟩
      · have : k = n := by omega
        subst this
        rw [if_pos ⟨h2, h3⟩]
        exact .inr h4
theorem withinI_outP {h : List (List Int)} {left : List Bool} {i p n : Nat} : withinI (outP h left i n) (h.getD p []) = allQ h left i p n := by
  rw [Bool.eq_iff_iff, withinI_iff]
  unfold allQ
  rw [List.all_eq_true]
  constructor
  · intro hh k hk
    by_cases h1 : k = i
    · simp [h1]
    · cases h2 : left.getD k false with
      | false => simp
      | true =>
        have : withinI (sharedI (h.getD i []) (h.getD k [])) (h.getD p []) = true := withinI_iff.2 fun v hv => hh v (outP_mem.2 ⟨k, by simpa using hk, h1, h2, hv⟩)
        rw [this]; simp
  · intro hh v hv
    obtain ⟨k, h1, h2, h3, h4⟩ := outP_mem.1 hv
    have := hh k (by simpa using h1)
    rw [decide_eq_false h2, h3] at this
    exact withinI_iff.1 (by simpa using this) v h4
theorem allQ_next {h : List (List Int)} {left : List Bool} {i p n : Nat} : allQ h left i p (n + 1) = (allQ h left i p n && (decide (n = i) || (!left.getD n false || withinI (sharedI (h.getD i []) (h.getD n [])) (h.getD p [])))) := by
  unfold allQ
  rw [List.range_succ, List.all_append]
  simp
theorem allQ_out {h : List (List Int)} {left : List Bool} {i p : Nat} (m : Nat) (hm : left.length ≤ m) : ∀ d, allQ h left i p (m + d) = allQ h left i p m
  | 0 => rfl
  | d + 1 => by
    rw [show m + (d + 1) = (m + d) + 1 by omega, allQ_next, allQ_out m hm d]
    have : left.getD (m + d) false = false := by rw [List.getD_eq_getElem?_getD, List.getElem?_eq_none (by omega)]; rfl
    rw [this]
    simp
def optInt (o : Option Nat) : Int := match o with | some p => p | none => -1
theorem earQ_out {h : List (List Int)} {left : List Bool} {i p : Nat} (hp : left.length ≤ p) : earQ h left i p = false := by
  unfold earQ
  have : left.getD p false = false := by rw [List.getD_eq_getElem?_getD, List.getElem?_eq_none (by omega)]; rfl
  rw [this]
  simp
set_option maxRecDepth 4000 in
theorem T_rparent (h : List (List Int)) (left : List Bool) (i : Int) (hh : HsOk h) (hl : left.length < 4611686018427387904) : T Try.prog 119 [.sl .no (lists' h), .sl .no (bools' left), .int .i64 i] (.int .i64 (optInt (earI h left i))) := by
  have hn := hh.n
  have hs := hh.s
  refine T.intro (TS.body mix Try.func119 (by kernel_rfl) rfl (by kernel_rfl) (by simp) ?_)
  by_cases c1 : i < 0
  · have : earI h left i = none := by unfold earI; rw [if_neg (by omega)]
    rw [this]
    cases hq : left[i.toNat]? <;> simp [c1, optInt, hq]
  by_cases c2 : (h.length : Int) ≤ i
  · have : earI h left i = none := by unfold earI; rw [if_neg (by omega)]
    rw [this]
    cases hq : left[i.toNat]? <;> simp [c1, c2, optInt, hq]
  obtain ⟨a, rfl⟩ : ∃ a : Nat, i = a := ⟨i.toNat, by omega⟩
  have ha : a < h.length := by omega
  have hna : ¬ h.length ≤ a := by omega
  have hn0 : ¬ (a : Int) < 0 := by omega
  have he : earI h left a = earF h left a := by unfold earI; rw [if_pos (by omega)]; rfl
  rw [he]
  by_cases c3 : left.length ≤ a
  · have : left.getD a false = false := by rw [List.getD_eq_getElem?_getD, List.getElem?_eq_none (by omega)]; rfl
    have : earF h left a = none := by unfold earF; rw [this]; rfl
    rw [this]
    simp [hna, hn0, c3, optInt]
  have hal : a < left.length := by omega
  cases hla : left[a] with
  | false =>
    have : left.getD a false = false := by simp [hal, hla]
    have : earF h left a = none := by unfold earF; rw [this]; rfl
    rw [this]
    simp [hna, hn0, c3, hal, hla, optInt]
  | true =>
    have hla' : left.getD a false = true := by simp [hal, hla]
    have hef : earF h left a = (List.range h.length).find? (earQ h left a) := by unfold earF; rw [hla']; rfl
    rw [hef]
    simp [hna, hn0, c3, hal, hla]
    refine vc_loop (fun p : Nat => h.length - p) (fun p e H => e 0 = .sl .no (lists' h) ∧ e 1 = .sl .no (bools' left) ∧ e 2 = .int .i64 a ∧ e 7 = .int .i64 p ∧ p ≤ h.length ∧ ∀ j, j < p → earQ h left a j = false) 0 ?_ ?_
    · simp
    rintro p e H ⟨e0, e1, e2, e7, hp, hno⟩
    have done : ∀ (q : p = h.length ∨ left.length ≤ p), (List.range h.length).find? (earQ h left a) = none := by
      intro q
      refine find_range_none fun j hj => ?_
      rcases Nat.lt_or_ge j p with h2 | h2
      · exact hno j h2
      · exact earQ_out (by omega)
    by_cases hlt : p < h.length
    case neg =>
      rw [done (.inl (by omega))]
      simp [e0, e1, e2, e7, hlt, optInt]
    by_cases hlp : p < left.length
    case neg =>
      rw [done (.inr (by omega))]
      simp [e0, e1, e2, e7, hlt, hlp, optInt]
    have ew := wrap_next hlt (by omega)
    have hq : earQ h left a p = (!decide (p = a) && (left[p] && allQ h left a p h.length)) := by
      unfold earQ; rw [withinI_outP]; simp [hlp]
    simp [e0, e1, e2, e7, hlt, hlp]
    by_cases c4 : p = a
    · have c5 : (p : Int) = a := by omega
      rw [decide_eq_true c4] at hq
      simp [e0, e1, e2, e7, hlt, hlp, c5]
      rw [← c5]
      exact ⟨p + 1, by omega, ew, by omega, no_next hno hq⟩
    have c5 : ¬ (p : Int) = a := by omega
    rw [decide_eq_false c4] at hq
    cases c6 : left[p] with
    | false =>
      rw [c6] at hq
      simp [e0, e1, e2, e7, hlt, hlp, c5, c6]
      exact ⟨p + 1, by omega, ew, by omega, no_next hno hq⟩
    | true =>
      rw [c6] at hq
      simp at hq
      have hq2 : earQ h left a p = allQ h left a p h.length := by simpa [c4] using hq
      simp [e0, e1, e2, e7, hlt, hlp, c5, c6]
      refine vc_loop (fun k : Nat => h.length - k) (fun k e H => e 0 = .sl .no (lists' h) ∧ e 1 = .sl .no (bools' left) ∧ e 2 = .int .i64 a ∧ e 7 = .int .i64 p ∧ e 9 = .int .i64 k ∧ k ≤ h.length ∧ k ≤ left.length ∧ e 8 = .bool (allQ h left a p k)) 0 ?_ ?_
      · simp [e0, e1, e2, e7, allQ]
      clear e0 e1 e2 e7 e H
      rintro k e H ⟨e0, e1, e2, e7, e9, hk, hkl, e8⟩
      have fin : (k = h.length ∨ k = left.length) → allQ h left a p k = allQ h left a p h.length := by
        rintro (rfl | rfl)
        · rfl
        · obtain ⟨d, hd⟩ : ∃ d, h.length = left.length + d := ⟨h.length - left.length, by omega⟩
          rw [hd, allQ_out _ (Nat.le_refl _)]
      by_cases hkt : k < h.length ∧ k < left.length
      · obtain ⟨k1, k2⟩ := hkt
        have ekw := wrap_next k1 (by omega)
        have ks := T_rshared21 h[a] h[k] (by have := hs _ (List.getElem_mem ha); omega) (by have := hs _ (List.getElem_mem k1); omega)
        have hsl := sharedI_len h[a] h[k]
        have kw := T_rwithin21 (sharedI h[a] h[k]) h[p] (by have := hs _ (List.getElem_mem ha); omega) (by have := hs _ (List.getElem_mem hlt); omega)
        have hnx := allQ_next (h := h) (left := left) (i := a) (p := p) (n := k)
        simp [e0, e1, e2, e7, e8, e9, k1, k2, ha, hlt]
        refine ⟨fun a b => ⟨a, b⟩, ?_⟩
        refine GTK.callW (fun _ => ⟨ks, Dws.self (by simp)⟩) ?_
        simp [e0, e1, e2, e7, e8, e9, k1, k2, ha, hlt]
        refine ⟨fun a b => ⟨a, b⟩, GTK.callW (fun _ => ⟨kw, Dws.self (by simp)⟩) ?_⟩
        have hgk : left.getD k false = left[k] := by simp [k2]
        have hga : h.getD a [] = h[a] := by simp [ha]
        have hgk2 : h.getD k [] = h[k] := by simp [k1]
        have hgp : h.getD p [] = h[p] := by simp [hlt]
        rw [hgk, hga, hgk2, hgp] at hnx
        by_cases d1 : k = a
        · have d2 : (k : Int) = a := by omega
          rw [decide_eq_true d1, Bool.true_or, Bool.and_true] at hnx
          simp [e0, e1, e2, e7, e8, e9, k1, k2, ha, hlt, d2]
          rw [← d2]
          exact ⟨k + 1, by omega, ekw, by omega, by omega, hnx.symm⟩
        have d2 : ¬ (k : Int) = a := by omega
        cases d3 : left[k] with
        | false =>
          simp [d1, d3] at hnx
          simp [e0, e1, e2, e7, e8, e9, k1, k2, ha, hlt, d2]
          exact ⟨k + 1, by omega, ekw, by omega, by omega, by rw [hnx]⟩
        | true =>
          simp [d1, d3] at hnx
          cases d4 : withinI (sharedI h[a] h[k]) h[p] with
          | false =>
            rw [d4] at hnx
            simp at hnx
            simp [e0, e1, e2, e7, e8, e9, k1, k2, ha, hlt, d2]
            exact ⟨k + 1, by omega, ekw, by omega, by omega, by rw [hnx]⟩
          | true =>
            rw [d4] at hnx
            simp at hnx
            simp [e0, e1, e2, e7, e8, e9, k1, k2, ha, hlt, d2]
            exact ⟨k + 1, by omega, ekw, by omega, by omega, by rw [hnx]⟩
      · rw [fin (by omega), ← hq2] at e8
        have key : ∀ b : Bool, earQ h left a p = b → e 8 = .bool b := fun b hb => by rw [e8, hb]
        by_cases k1 : k < h.length
        · have k2 : ¬ k < left.length := fun h => hkt ⟨k1, h⟩
          cases hb : earQ h left a p with
          | false =>
            have e8 := key false hb
            simp [e0, e1, e2, e7, e8, e9, k1, k2]
            exact ⟨p + 1, by omega, ew, by omega, no_next hno hb⟩
          | true =>
            have e8 := key true hb
            rw [find_range hlt hb hno]
            simp [e0, e1, e2, e7, e8, e9, k1, k2, optInt]
        · cases hb : earQ h left a p with
          | false =>
            have e8 := key false hb
            simp [e0, e1, e2, e7, e8, e9, k1]
            exact ⟨p + 1, by omega, ew, by omega, no_next hno hb⟩
          | true =>
            have e8 := key true hb
            rw [find_range hlt hb hno]
            simp [e0, e1, e2, e7, e8, e9, k1, optInt]
theorem T_rear (h : List (List Int)) (left : List Bool) (i : Int) (hh : HsOk h) (hl : left.length < 4611686018427387904) : T Try.prog 48 [.sl .no (lists' h), .sl .no (bools' left), .int .i64 i] (.tup [.int .i64 ((earI h left i).getD 0 : Nat), .bool (earI h left i).isSome]) := by
  have k := T_rparent h left i hh hl
  refine T.intro (TS.body mix Try.func48 (by kernel_rfl) rfl (by kernel_rfl) (by simp) ?_)
  simp
  refine TS.callW k (Dws.self (by simp)) ?_
  cases h : earI h left i with
  | none => simp [optInt]
  | some p =>
    have : ¬ (p : Int) < 0 := by omega
    simp [optInt, this]
/-- the places of what may still go: the reference plays so many rounds -/
theorem playF_zero {h : List (List Int)} {m : Nat} {left : List Bool} : playF h (m + 1) left = match ear1 h left with | none => ([], left) | some (i, p) => ((i, p) :: (playF h m (left.set i false)).1, (playF h m (left.set i false)).2) := rfl
set_option maxRecDepth 4000 in
theorem T_rears (h : List (List Int)) (hh : HsOk h) : T Try.prog 50 [.sl .no (lists' h)] (.tup [slA earA (playI h).1, slA AV.bool (playI h).2]) := by
  have hn := hh.n
  have hs := hh.s
  refine T.introF (TS.bodyM [18] mix Try.func50 (by kernel_rfl) rfl (by kernel_rfl) (by simp) ?_)
  simp
  refine vc_loop (fun r : Nat => h.length - r) (fun r e H => e 0 = .sl .no (lists' h) ∧ e 5 = .int .i64 r ∧ r ≤ h.length ∧ ((r = 0 ∧ e 4 = .sl .nil [] ∧ H = []) ∨ (0 < r ∧ e 4 = .mv 0 r 1 0 r ∧ H = [.row r 1 (bools' (List.replicate r true))]))) 0 ?_ ?_
  · simp
  rintro r e H ⟨e0, e5, hr, hc⟩
  by_cases hlt : r < h.length
  · have ew := wrap_next hlt (by omega)
    rcases hc with ⟨rfl, e4, rfl⟩ | ⟨hp, e4, rfl⟩
    · simp only [Int.natCast_zero] at e5
      simp [e0, e4, e5, hlt]
      exact ⟨1, by omega, by simp, by omega, by omega, rfl, rfl⟩
    · simp [e0, e4, e5, hlt]
      refine ⟨⟨by omega, by omega⟩, r + 1, by omega, ew, by omega, by omega, rfl, ?_⟩
      rw [List.replicate_succ']
  have hrn : r = h.length := by omega
  subst hrn
  rcases hc with ⟨h0, e4, rfl⟩ | ⟨hp, e4, rfl⟩
  · have : h = [] := List.eq_nil_of_length_eq_zero h0
    subst this
    simp only [List.length_nil, Int.natCast_zero] at e5
    simp [e0, e4, e5]
    refine vc_loop (fun r : Nat => 0) (fun r e H => e 0 = .sl .no [] ∧ e 4 = .sl .nil [] ∧ e 6 = .sl .nil [] ∧ e 7 = .int .i64 0) 0 ?_ ?_
    · simp [e0, e4, e5]
    rintro r e H ⟨e0, e4, e6, e7⟩
    simp [e0, e4, e6, e7]
    exact .tup (.cons (Frz.slN (f := earA) (l := [])) (.cons (Frz.slN (f := AV.bool) (l := [])) .nil))
  simp [e0, e4, e5]
  refine vc_loop (fun r : Nat => h.length - r) (fun r e H => ∃ (left : List Bool) (es : List (Nat × Nat)) (J : List HO), e 0 = .sl .no (lists' h) ∧ e 4 = .mv 0 h.length 1 0 h.length ∧ e 7 = .int .i64 r ∧ r ≤ h.length ∧ GrowK 1 2 J (e 6) (avs earA es) ∧ H = .row h.length 1 (bools' left) :: J ∧ left.length = h.length ∧ es.length ≤ r ∧ playI h = (es ++ (playF h (h.length - r) left).1, (playF h (h.length - r) left).2)) 0 ?_ ?_
  · exact ⟨List.replicate h.length true, [], [], by simp [e0], by simp [e4], by simp, by omega, by simp [GrowK], rfl, by simp, by simp, by simp [playI]⟩
  clear e0 e4 e5 hr hlt e
  rintro r e H ⟨left, es, J, e0, e4, e7, hr, hg, rfl, hl, hes, hpl⟩
  by_cases hlt : r < h.length
  case neg =>
    have : r = h.length := by omega
    subst this
    rw [Nat.sub_self, playF] at hpl
    simp only [List.append_nil] at hpl
    simp [e0, e4, e7]
    rw [hpl]
    refine .tup (.cons ?_ (.cons (bools_mv rfl hl) .nil))
    obtain ⟨own, ho⟩ := hg.own
    rw [ho]
    exact Frz.slN
  have ew := wrap_next hlt (by omega)
  obtain ⟨m, hm⟩ : ∃ m, h.length - r = m + 1 := ⟨h.length - r - 1, by omega⟩
  have hm2 : h.length - (r + 1) = m := by omega
  simp [e0, e4, e7, hlt]
  refine vc_loop (fun k : Nat => h.length - k) (fun k e H => e 0 = .sl .no (lists' h) ∧ e 4 = .mv 0 h.length 1 0 h.length ∧ e 7 = .int .i64 r ∧ e 8 = .int .i64 k ∧ k ≤ h.length ∧ (∀ j, j < k → earF h left j = none) ∧ GrowK 1 2 J (e 6) (avs earA es) ∧ H = .row h.length 1 (bools' left) :: J) 0 ?_ ?_
  · simp [e0, e4, e7]
    exact hg
  clear e0 e4 e7 hg e
  rintro k e H ⟨e0, e4, e7, e8, hk, hno, hg, rfl⟩
  by_cases hkt : k < h.length
  · have ekw := wrap_next hkt (by omega)
    have ke := T_rparent h left k hh (by omega)
    have hei : earI h left k = earF h left k := by unfold earI; rw [if_pos (by omega)]; rfl
    rw [hei] at ke
    simp [e0, e4, e7, e8, hkt]
    refine TS.callF ke (.cons (.cl (by simp)) (.cons (bools_mv rfl hl) (.cons (.cl (by simp)) .nil))) rfl ?_
    cases hq : earF h left k with
    | none =>
      simp [e0, e4, e7, e8, hkt, optInt]
      exact ⟨k + 1, by omega, ekw, by omega, fun j hj => by
        rcases Nat.lt_or_ge j k with h2 | h2
        · exact hno j h2
        · have : j = k := by omega
          subst this; exact hq, hg⟩
    | some p =>
      have h1 : ear1 h left = some (k, p) := by
        unfold ear1
        exact findSome_range hkt (by rw [hq]; rfl) fun j hj => by rw [hno j hj]; rfl
      rw [hm, playF, h1] at hpl
      dsimp only at hpl
      have e1 : avs AV.bool (left.take k ++ false :: left.drop (k + 1)) = bools' (left.set k false) := by
        rw [List.set_eq_take_append_cons_drop, if_pos (by omega)]
      rcases hg with ⟨ge, hg⟩ | ⟨t, hg, ht⟩
      · rw [avs_eq_nil] at ge
        subst ge
        simp [e0, e4, e7, e8, hkt, hg, optInt]
        refine ⟨by omega, r + 1, by omega, ew, by omega, left.set k false, [(k, p)], _, GrowK.first (f := earA) (l := []) (a := (k, p)) rfl rfl, ⟨e1, rfl⟩, by simp [hl], by simp, ?_⟩
        rw [hm2]
        simpa using hpl
      · simp [e0, e4, e7, e8, hkt, hg, ht, optInt]
        refine ⟨⟨by omega, by omega⟩, by omega, r + 1, by omega, ew, by omega, left.set k false, es ++ [(k, p)], _, ?_, ⟨e1, rfl⟩, by simp [hl], by simp; omega, ?_⟩
        · have := GrowK.more (f := earA) (q := 1) (l := es) (a := (k, p)) (n := es.length + 1) ht rfl
          rw [← avs_append, avs_cons, avs_nil] at this
          rw [← avs_append, avs_cons, avs_nil]
          exact this
        · rw [hm2]
          simpa using hpl
  · have : k = h.length := by omega
    subst this
    have h1 : ear1 h left = none := findSome_range_none fun j hj => by rw [hno j hj]; rfl
    rw [playF_none h1] at hpl
    simp [e0, e4, e7, e8]
    refine ⟨r + 1, by omega, ew, by omega, left, es, J, hg, ⟨rfl, rfl⟩, hl, by omega, ?_⟩
    rw [playF_none h1]
    exact hpl
end Go.Proofs.Ytahpoodcmeoabaa.PL
