/- GyoEars. -/
import Derived.Test.YtahpoodcmeoabaaFGyo4
import Derived.Test.YtahpoodcmeoabaaFMu21
namespace Go.Proofs.Ytahpoodcmeoabaa.PL
open Go.Proofs
set_option linter.unusedVariables false
set_option linter.unusedSimpArgs false
theorem acy_tri : acyI [[1, 2], [2, 3], [1, 3]] = false := by decide +kernel
theorem acy_four : acyI [[1, 2], [2, 3], [1, 3], [1, 2, 3]] = true := by decide +kernel
set_option maxRecDepth 100000 in
theorem T_live22 : T Try.prog 46 [] (.bool true) := by
  have k1 := T_gacyc [[1, 2], [2, 3], [1, 3]] ⟨by decide, by simp⟩
  have k2 := T_gacyc [[1, 2], [2, 3], [1, 3], [1, 2, 3]] ⟨by decide, by simp⟩
  rw [acy_tri] at k1
  rw [acy_four] at k2
  simp only [avs_cons, avs_nil, slA] at k1 k2
  refine T.intro (TS.body mix Try.func46 (by kernel_rfl) rfl (by kernel_rfl) (by simp) ?_)
  simp
  refine TS.callW k1 (by repeat (first | exact .self rfl | constructor)) ?_
  simp
  refine GTK.callW (fun _ => ⟨k2, by repeat (first | exact .self rfl | constructor)⟩) ?_
  simp
theorem much_ok {h : List (List Int)} (hm : muchG h = false) : HsOk h := by
  obtain ⟨h1, h2⟩ := muchG_no hm
  exact ⟨by omega, fun l hl => by have := h2 l hl; omega⟩
set_option maxRecDepth 4000 in
theorem T_GyoEars (h : List (List Int)) (left : List Bool) (i : Int) (hn0 : h.length < 4611686018427387904) (hs0 : ∀ l, l ∈ h → l.length < 4611686018427387904) (hl0 : left.length < 4611686018427387904) : T Try.prog 7 [.sl .no (lists' h), .sl .no (bools' left), .int .i64 i] (.bool true) := by
  have km := T_much21 h hn0 hs0
  refine T.intro (TS.body mix Try.func7 (by kernel_rfl) rfl (by kernel_rfl) (by simp) ?_)
  simp
  refine TS.callW km (Dws.self (by simp)) ?_
  cases hm : muchG h with
  | true =>
    simp
    refine TS.callW T_live22 .nil ?_
    simp
  | false =>
    by_cases hb : (30 : Int) < left.length
    · simp [hb]
      refine TS.callW T_live22 .nil ?_
      simp
    have hh := much_ok hm
    have hn := hh.n
    have k1 := T_ear h left i hh hl0
    have k2 := T_rear h left i hh hl0
    have k3 := T_ears h hh
    have k4 := T_rears h hh
    have k5 := T_left h hh
    have k6 := T_gacyc h hh
    have hpl := playI_len h
    have hlen := hpl.1
    have hlen2 := hpl.2
    clear hpl
    have hacy : acyI h = decide ((restI (playI h).2).length ≤ 1) := rfl
    generalize earI h left i = o at k1 k2
    generalize (playI h).1 = es at *
    generalize (playI h).2 = L at *
    generalize acyI h = ac at *
    simp [hb]
    refine TS.callW k1 (Dws.self (by simp)) ?_
    simp
    refine TS.callW k2 (Dws.self (by simp)) ?_
    simp
    refine TS.callW k3 (Dws.self (by simp)) ?_
    simp
    refine TS.callW k4 (Dws.self (by simp)) ?_
    simp
    refine vc_loop (fun k : Nat => es.length - k) (fun k e H => e 0 = .sl .no (lists' h) ∧ e 11 = slA earA es ∧ e 12 = slA earA es ∧ e 13 = .sl .no (bools' L) ∧ e 14 = .int .i64 k ∧ k ≤ es.length) 0 ?_ ?_
    · simp
    rintro k e H ⟨e0, e11, e12, e13, e14, hk⟩
    by_cases hlt : k < es.length
    · have ew := wrap_next hlt (by omega)
      have heq : EqT Try.prog 69 (earA es[k]).cells (earA es[k]).cells := EqT.flat [.int, .int] (by kernel_rfl) rfl rfl ⟨rfl, rfl, trivial⟩
      simp [e0, e11, e12, e13, e14, hlt]
      simp only [earA, cells_agg] at heq
      simp [earA, heq]
      simp [e0, e11, e12, e13, e14, hlt]
      exact ⟨k + 1, by omega, ew, by omega⟩
    simp [e0, e11, e12, e13, e14, hlt]
    refine vc_loop (fun k : Nat => L.length - k) (fun k e H => e 0 = .sl .no (lists' h) ∧ e 13 = .sl .no (bools' L) ∧ e 16 = .int .i64 k ∧ k ≤ L.length ∧ Grow1 1 H (e 15) (ints' (restN L k))) 0 ?_ ?_
    · simp [e0, e13]
      exact .inl ⟨rfl, rfl⟩
    clear e0 e11 e12 e13 e14 hk hlt k e H
    rintro k e H ⟨e0, e13, e16, hk, hg⟩
    by_cases hlt : k < L.length
    · have ew := wrap_next hlt (by omega)
      have hnx := restN_next L k
      have hrl := restN_len L k
      have hgk : L.getD k false = L[k] := by simp [hlt]
      cases hq : L[k] with
      | false =>
        rw [hgk, hq] at hnx
        simp at hnx
        simp [e0, e13, e16, hlt, hq]
        exact ⟨k + 1, by omega, ew, by omega, by rw [hnx]; exact hg⟩
      | true =>
        rw [hgk, hq, if_pos rfl] at hnx
        rcases hg with ⟨ge, hg⟩ | ⟨t, hg, ht⟩
        · rw [avs_eq_nil] at ge
          simp [e0, e13, e16, hlt, hq, hg]
          refine ⟨k + 1, by omega, ew, by omega, ?_⟩
          rw [hnx, ge]
          exact Grow1.first (f := AV.int .i64) (l := []) rfl rfl
        · simp [e0, e13, e16, hlt, hq, hg, ht]
          refine ⟨⟨by omega, by omega⟩, k + 1, by omega, ew, by omega, ?_⟩
          rw [hnx]
          have := Grow1.more (f := AV.int .i64) (l := restN L k) (a := (k : Int)) (n := (restN L k).length + 1) ht rfl
          exact this
    · have : k = L.length := by omega
      subst this
      have hrl := restN_len L L.length
      have hr : restN L L.length = restI L := rfl
      rw [hr] at hrl hg
      have k7 := T_sameList21 (restI L) (restI L) (by omega)
      obtain ⟨own, ho⟩ := hg.own
      simp [e0, e13, e16, ho]
      refine TS.callW k5 (Dws.self (by simp)) ?_
      simp [e0, e13, e16, ho]
      refine TS.callW k7 (.cons (.self (by simp)) (.cons (.sl (Dws.self (by simp))) .nil)) ?_
      simp [e0, e13, e16, ho]
      refine GTK.callW (fun _ => ⟨k6, Dws.self (by simp)⟩) ?_
      have hle : decide ((restI L).length ≤ 1) = decide (((restI L).length : Int) ≤ 1) := by simp; omega
      simp [e0, e13, e16, ho, hacy]
      rw [hle]
      simp
      refine GTK.callW (fun _ => ⟨T_live22, .nil⟩) ?_
      simp
theorem S_GyoEars {xs : List AV} (h : ShA Try.prog [32, 61, 3] xs) : T Try.prog 7 xs (.bool true) := by
  obtain ⟨y, r, rfl, h0, h⟩ := h.cons_of ag_32
  obtain ⟨y, r, rfl, h1, h⟩ := h.cons_of ag_61
  obtain ⟨y, r, rfl, h2, h⟩ := h.cons_of ag_3
  obtain rfl := h.nil_of
  obtain ⟨a, rfl, ha, hb⟩ := lists_in h0
  obtain ⟨l, rfl, hl⟩ := bools_in h1
  obtain ⟨v, rfl, _⟩ := h2.int_of un_3
  exact T_GyoEars a l v ha hb hl
end Go.Proofs.Ytahpoodcmeoabaa.PL
