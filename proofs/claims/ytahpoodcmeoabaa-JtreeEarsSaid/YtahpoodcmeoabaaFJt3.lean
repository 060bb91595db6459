/- Trees by their parents: ways. -/
import Derived.Test.YtahpoodcmeoabaaFJt2
namespace Go.Proofs.Ytahpoodcmeoabaa.PL
open Go.Proofs
set_option linter.unusedVariables false
set_option linter.unusedSimpArgs false
/-- a copy that may be written -/
theorem S_cloneM (H : List HO) (xs : List Int) (hl : xs.length ≤ 1000000) : TS Try.prog 99 [.sl .no (ints' xs)] H (fun r H' => (xs = [] ∧ r = .sl .exact [] ∧ H' = H) ∨ (0 < xs.length ∧ r = .mv H.length xs.length 1 0 xs.length ∧ H' = H ++ [.row xs.length 1 (ints' xs)])) := by
  refine TS.exd ?_
  refine TS.bodyM [7] mix Try.func99 (by kernel_rfl) rfl (by kernel_rfl) (by simp) ?_
  by_cases h0 : xs = []
  · subst h0
    simp [isSlT, un_22]
  · have hp : 0 < xs.length := List.length_pos_iff.2 h0
    simp [h0, hp]
    exact ⟨by simp [isSlT, un_22], by omega, by omega⟩
theorem S_revNil (H : List HO) (own : Own) : TS Try.prog 100 [.sl own []] H (pt (.tup []) H) := by
  refine TS.body mix Try.func100 (by kernel_rfl) rfl (by kernel_rfl) (by simp) ?_
  simp
  refine vc_rnds 1 ?_
  simp
theorem S_rev (H : List HO) (r n : Nat) (xs : List Int) (hn : xs.length = n) (hr : H[r]? = some (.row n 1 (ints' xs))) (hp : 0 < n) (hl : n ≤ 1000000) : TS Try.prog 100 [.mv r n 1 0 n] H (pt (.tup []) (H.set r (.row n 1 (ints' xs.reverse)))) := by
  have hrl := (List.getElem?_eq_some_iff.1 hr).1
  have h00 : H = H.set r (.row n 1 (ints' xs)) := by
    have : H[r] = .row n 1 (ints' xs) := by rw [List.getElem?_eq_getElem hrl] at hr; exact Option.some.inj hr
    rw [← this, List.set_getElem_self]
  have w0 : IntKind.i64.wrap ((n : Int) - 1) = ((n - 1 : Nat) : Int) := by rw [wrap_i64 (by omega) (by omega)]; omega
  refine TS.body mix Try.func100 (by kernel_rfl) rfl (by kernel_rfl) (by simp) ?_
  simp [w0]
  refine vc_loop (fun i : Nat => n - i) (fun i e H' => ∃ (L : List Int) (j : Nat), e 0 = .mv r n 1 0 n ∧ e 2 = .int .i64 i ∧ e 3 = .int .i64 (j : Int) ∧ j + i + 1 = n ∧ i ≤ j + 1 ∧ L.length = n ∧ (∀ k, k < n → L[k]? = if k < i ∨ j < k then xs[n - 1 - k]? else xs[k]?) ∧ H' = H.set r (.row n 1 (ints' L))) 0 ?_ ?_
  · exact ⟨xs, n - 1, by simp, by simp, by simp, by omega, by omega, hn, fun k hk => by rw [if_neg (by omega)], h00⟩
  rintro i e H' ⟨L, j, h0, h2, h3, hij, hij2, hL, hk, rfl⟩
  by_cases hlt : i < j
  · have hiL : i < L.length := by omega
    have hjL : j < L.length := by omega
    have ew := wrap_next (i := i) (n := n) (by omega) (by omega)
    have w1 : IntKind.i64.wrap ((j : Int) - 1) = ((j - 1 : Nat) : Int) := by rw [wrap_i64 (by omega) (by omega)]; omega
    have b1 : i < n := by omega
    have b2 : j < n := by omega
    have e1 : L.take i ++ L[j] :: L.drop (i + 1) = L.set i L[j] := setIQ hiL
    have e2 : ∀ x, (L.set i L[j]).take j ++ x :: (L.set i L[j]).drop (j + 1) = (L.set i L[j]).set j x := fun x => setIQ (by simpa using hjL)
    simp [h0, h2, h3, hlt, hrl, hiL, hjL, hL, b1, b2]
    refine ⟨by omega, by omega, i + 1, by omega, ew, (L.set i L[j]).set j L[i], j - 1, w1, by omega, by omega, by simp [hL], fun k hkn => ?_, ?_⟩
    · have hki := hk k hkn
      have hki2 := hk i b1
      have hki3 := hk j b2
      rw [if_neg (by omega), List.getElem?_eq_getElem hiL] at hki2
      rw [if_neg (by omega), List.getElem?_eq_getElem hjL] at hki3
      rw [List.getElem?_set, List.getElem?_set]
      by_cases c1 : j = k
      · subst c1
        rw [if_pos rfl, if_pos (by simpa using hjL), if_pos (by omega), hki2]
        congr 1; omega
      · rw [if_neg c1]
        by_cases c2 : i = k
        · subst c2
          rw [if_pos rfl, if_pos hiL, if_pos (by omega), hki3]
          congr 1; omega
        · rw [if_neg c2, hki]
          by_cases c3 : k < i ∨ j < k
          · rw [if_pos c3, if_pos (by omega)]
          · rw [if_neg c3, if_neg (by omega)]
    · rw [e1, e2]
  · have hc : ¬ (i : Int) < j := by omega
    have : L = xs.reverse := by
      apply List.ext_getElem?
      intro k
      rcases Nat.lt_or_ge k n with hkn | hkn
      · rw [hk k hkn, List.getElem?_reverse (by omega), hn]
        split
        · rfl
        · have : n - 1 - k = k := by omega
          rw [this]
      · rw [List.getElem?_eq_none (by omega), List.getElem?_eq_none (by simp; omega)]
    subst this
    simp [h0, h2, h3, hlt]
/-- the way from one to another, as far as both ways up meet -/
def pathQ (x y : List Int) : List Int := match x.findIdx? fun v => decide (v ∈ y) with
  | none => []
  | some i => x.take (i + 1) ++ (y.take (y.findIdx fun v => decide (v = x.getD i 0))).reverse
theorem idx_of (l : List Int) (v : Int) (h : v ∈ l) : ∃ i, l.findIdx? (fun x => decide (x = v)) = some i ∧ i < l.length ∧ l.findIdx (fun x => decide (x = v)) = i := by
  cases hq : l.findIdx? (fun x => decide (x = v)) with
  | none =>
    rw [List.findIdx?_eq_none_iff] at hq
    have := hq v h
    simp at this
  | some i =>
    rw [List.findIdx?_eq_some_iff_findIdx_eq] at hq
    exact ⟨i, rfl, hq.1, hq.2⟩
set_option maxRecDepth 4000 in
theorem T_path (ps : List Int) (a b : Int) (hl : ps.length ≤ 1000000) : T Try.prog 27 [.sl .no (ints' ps), .int .i64 a, .int .i64 b] (.sl .no (ints' (pathQ (upI (heldI ps) a) (upI (heldI ps) b)))) := by
  have kh := T_held ps hl
  have hql := heldI_len ps
  have ka := T_up (heldI ps) a (by omega)
  have kb := T_up (heldI ps) b (by omega)
  have hxl : (upI (heldI ps) a).length ≤ (heldI ps).length := upF_len _ _
  have hyl : (upI (heldI ps) b).length ≤ (heldI ps).length := upF_len _ _
  generalize upI (heldI ps) a = x at *
  generalize upI (heldI ps) b = y at *
  generalize heldI ps = q at *
  refine T.introF (TS.bodyM [39] mix Try.func27 (by kernel_rfl) rfl (by kernel_rfl) (by simp) ?_)
  simp
  refine TS.callW kh (Dws.self (by simp)) ?_
  simp
  refine TS.callW ka (Dws.self (by simp)) ?_
  simp
  refine TS.callW kh (Dws.self (by simp)) ?_
  simp
  refine TS.callW kb (Dws.self (by simp)) ?_
  by_cases hx0 : x = []
  · subst hx0
    simp
    exact Frz.slN (f := AV.int .i64) (l := [])
  by_cases hy0 : y = []
  · subst hy0
    have : pathQ x [] = [] := by
      unfold pathQ
      have : x.findIdx? (fun v => decide (v ∈ ([] : List Int))) = none := by rw [List.findIdx?_eq_none_iff]; simp
      rw [this]
    rw [this]
    simp [hx0]
    exact Frz.slN (f := AV.int .i64) (l := [])
  have hx1 : ¬ (x.length : Int) = 0 := by have := List.length_pos_iff.2 hx0; omega
  have hy1 : ¬ (y.length : Int) = 0 := by have := List.length_pos_iff.2 hy0; omega
  simp [hx0, hx1, hy0, hy1]
  refine vc_loop (fun i : Nat => x.length - i) (fun i e H => e 8 = .sl .no (ints' y) ∧ e 30 = .sl .no (ints' x) ∧ e 31 = .int .i64 x.length ∧ e 32 = .int .i64 i ∧ i ≤ x.length ∧ (∀ j (h : j < x.length), j < i → ¬ x[j] ∈ y) ∧ ((i = 0 ∧ e 9 = .sl .nil [] ∧ H = []) ∨ (0 < i ∧ e 9 = .mv 0 i 1 0 i ∧ H = [.row i 1 (ints' (x.take i))]))) 0 ?_ ?_
  · simp
  rintro i e H ⟨e8, e30, e31, e32, hi, hno, hc⟩
  by_cases hlt : i < x.length
  case neg =>
    have : pathQ x y = [] := by
      unfold pathQ
      have : x.findIdx? (fun v => decide (v ∈ y)) = none := by
        rw [List.findIdx?_eq_none_iff]
        intro v hv
        obtain ⟨j, hj, rfl⟩ := List.getElem_of_mem hv
        simpa using hno j hj (by omega)
      rw [this]
    rw [this]
    simp [e8, e30, e31, e32, hlt]
    exact Frz.slN (f := AV.int .i64) (l := [])
  have ew := wrap_next hlt (by omega)
  obtain ⟨n, kn, hn0, hn⟩ := T_indexI y x[i] (by omega)
  have hnx := take_next hlt
  have done : x[i] ∈ y → ∃ k : Nat, n = (k : Int) ∧ k < y.length ∧ pathQ x y = x.take (i + 1) ++ (y.take k).reverse := by
    intro hm
    obtain ⟨k, k1, k2, k3⟩ := idx_of y x[i] hm
    rw [k1] at hn
    refine ⟨k, hn, k2, ?_⟩
    unfold pathQ
    have : x.findIdx? (fun v => decide (v ∈ y)) = some i := by
      rw [List.findIdx?_eq_some_iff_getElem]
      exact ⟨hlt, by simpa using hm, fun j hj => by simpa using hno j (by omega) hj⟩
    rw [this]
    have hg : x.getD i 0 = x[i] := by simp [hlt]
    dsimp only
    rw [hg, k3]
  by_cases hm : x[i] ∈ y
  · obtain ⟨k, rfl, hk, hpq⟩ := done hm
    rw [hpq]
    have hk0 : ¬ (k : Int) < 0 := by omega
    have hkl : (k : Int) ≤ y.length := by omega
    have hyk : (y.take k).length = k := by rw [List.length_take]; omega
    rcases hc with ⟨rfl, e9, rfl⟩ | ⟨hp, e9, rfl⟩
    · have e1 : x.take 1 = [x[0]] := by simpa using hnx
      simp only [Int.natCast_zero] at e32
      simp [e8, e9, e30, e31, e32, hlt]
      refine TS.callW kn (Dws.self (by simp)) ?_
      simp [e8, e9, e30, e31, e32, hlt, hk0, hkl]
      refine TS.mono (S_cloneM _ (y.take k) (by omega)) ?_
      rintro r H (⟨h1, rfl, rfl⟩ | ⟨h1, rfl, rfl⟩)
      · rw [h1]
        simp [e8, e9, e30, e31, e32, hlt]
        refine TS.pt (S_revNil _ _) ?_
        simp [e8, e9, e30, e31, e32, hlt]
        rw [e1]
        exact Frz.mvA (f := AV.int .i64) (sz := 1) (l := [x[0]]) (by simp) rfl
      · rw [hyk] at h1
        simp [e8, e9, e30, e31, e32, hlt, hyk]
        refine TS.pt (S_rev _ 1 k (y.take k) hyk (by simp [hyk]) h1 (by omega)) ?_
        simp [e8, e9, e30, e31, e32, hlt, hyk]
        have hrt : ((y.take k).reverse).take k = (y.take k).reverse := List.take_of_length_le (by simp [hyk])
        rw [hrt]
        refine ⟨⟨by omega, by omega⟩, ?_⟩
        refine Frz.mvA (f := AV.int .i64) (sz := 1) (l := x.take 1 ++ (y.take k).reverse) ?_ (by simp [hyk]; omega)
        rw [e1]
        simp
    · simp [e8, e9, e30, e31, e32, hlt]
      refine ⟨⟨by omega, by omega⟩, ?_⟩
      refine TS.callW kn (Dws.self (by simp)) ?_
      simp [e8, e9, e30, e31, e32, hlt, hk0, hkl]
      refine TS.mono (S_cloneM _ (y.take k) (by omega)) ?_
      rintro r H (⟨h1, rfl, rfl⟩ | ⟨h1, rfl, rfl⟩)
      · rw [h1]
        simp [e8, e9, e30, e31, e32, hlt]
        refine TS.pt (S_revNil _ _) ?_
        simp [e8, e9, e30, e31, e32, hlt]
        have := Frz.mvA (f := AV.int .i64) (sz := 1) (H := [.row (i + 1) 1 (ints' (x.take (i + 1)))]) (id := 0) (n := i + 1) (l := x.take (i + 1)) (by simp) (by rw [List.length_take]; omega)
        exact ⟨⟨by omega, by omega⟩, this⟩
      · rw [hyk] at h1
        simp [e8, e9, e30, e31, e32, hlt, hyk]
        refine TS.pt (S_rev _ 1 k (y.take k) hyk (by simp [hyk]) h1 (by omega)) ?_
        simp [e8, e9, e30, e31, e32, hlt, hyk]
        have hrt : ((y.take k).reverse).take k = (y.take k).reverse := List.take_of_length_le (by simp [hyk])
        rw [hrt]
        refine ⟨⟨by omega, by omega⟩, ?_⟩
        refine Frz.mvA (f := AV.int .i64) (sz := 1) (l := x.take (i + 1) ++ (y.take k).reverse) ?_ (by simp [hyk]; omega)
        simp
  · have hneg : n < 0 := by
      rw [decide_eq_false hm] at hn0
      simpa using hn0
    have fin : ∀ j (h : j < x.length), j < i + 1 → ¬ x[j] ∈ y := by
      intro j h hj
      rcases Nat.lt_or_ge j i with h2 | h2
      · exact hno j h h2
      · have : j = i := by omega
        subst this; exact hm
    rcases hc with ⟨rfl, e9, rfl⟩ | ⟨hp, e9, rfl⟩
    · have e1 : x.take 1 = [x[0]] := by simpa using hnx
      simp only [Int.natCast_zero] at e32
      simp [e8, e9, e30, e31, e32, hlt]
      refine TS.callW kn (Dws.self (by simp)) ?_
      simp [e8, e9, e30, e31, e32, hlt, hneg]
      exact ⟨1, by omega, by omega, by omega, fin, by omega, rfl, by rw [e1]; rfl⟩
    · simp [e8, e9, e30, e31, e32, hlt]
      refine ⟨⟨by omega, by omega⟩, ?_⟩
      refine TS.callW kn (Dws.self (by simp)) ?_
      simp [e8, e9, e30, e31, e32, hlt, hneg]
      exact ⟨i + 1, by omega, ew, by omega, fin, by omega, rfl, rfl⟩
end Go.Proofs.Ytahpoodcmeoabaa.PL
