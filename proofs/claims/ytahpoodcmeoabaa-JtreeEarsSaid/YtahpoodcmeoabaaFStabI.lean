/- slices.SortStableFunc on numbers. -/
import Derived.Test.YtahpoodcmeoabaaFLib
namespace Go.Proofs.Ytahpoodcmeoabaa.PL
open Go.Proofs
set_option linter.unusedVariables false
set_option linter.unusedSimpArgs false
abbrev rwAQ (r : Int) : AV := AV.int .i64 r
abbrev capA (ps : List Int) : AV := .ref [.sl .no (ints' ps)]
theorem avs_setIQ {α : Type} {f : α → AV} {L : List α} {j : Nat} (hj : j < L.length) {x : α} : avs f (L.take j) ++ f x :: avs f (L.drop (j + 1)) = avs f (L.set j x) := by
  rw [List.set_eq_take_append_cons_drop, if_pos hj]
  simp [avs]
theorem setIQ {α : Type} {L : List α} {j : Nat} (hj : j < L.length) {x : α} : L.take j ++ x :: L.drop (j + 1) = L.set j x := by
  rw [List.set_eq_take_append_cons_drop, if_pos hj]
theorem swap_twoQ {α : Type} (A B C : List α) (x y : α) : ((A ++ x :: (B ++ y :: C)).set A.length y).set (A.length + 1 + B.length) x = A ++ y :: (B ++ x :: C) := by
  have e1 : (A ++ x :: (B ++ y :: C)).set A.length y = A ++ y :: (B ++ y :: C) := by simp
  rw [e1]
  rw [List.set_append_right _ _ (by omega), show A.length + 1 + B.length - A.length = B.length + 1 by omega, List.set_cons_succ, List.set_append_right _ _ (by omega), Nat.sub_self, List.set_cons_zero]
theorem S_swapRQ (H : List HO) (r n a b m : Nat) (cv : AV) (P X M Y Q : List Int) (hn : (P ++ X ++ M ++ Y ++ Q).length = n) (ha : P.length = a) (hb : P.length + X.length + M.length = b) (hx : X.length = m) (hy : Y.length = m) (hr : H[r]? = some (.row n 1 (avs rwAQ (P ++ X ++ M ++ Y ++ Q)))) (h1k : n ≤ 1000) :
    TS Try.prog 194 [.mv r n 1 0 n, .int .i64 a, .int .i64 b, .int .i64 m, cv] H (pt (.tup []) (H.set r (.row n 1 (avs rwAQ (P ++ Y ++ M ++ X ++ Q))))) := by
  have hrl := (List.getElem?_eq_some_iff.1 hr).1
  have hl : P.length + X.length + M.length + Y.length + Q.length = n := by rw [← hn]; simp; omega
  have h00 : H = H.set r (.row n 1 (avs rwAQ (P ++ (Y.take 0 ++ X.drop 0) ++ M ++ (X.take 0 ++ Y.drop 0) ++ Q))) := by
    have : H[r] = .row n 1 (avs rwAQ (P ++ X ++ M ++ Y ++ Q)) := by rw [List.getElem?_eq_getElem hrl] at hr; exact Option.some.inj hr
    simp only [List.take_zero, List.drop_zero, List.nil_append]
    rw [← this, List.set_getElem_self]
  refine TS.body mix Try.func194 (by kernel_rfl) rfl (by kernel_rfl) (by simp) ?_
  simp
  refine vc_loop (fun i : Nat => m - i) (fun i e H' => e 0 = .mv r n 1 0 n ∧ e 1 = .int .i64 a ∧ e 2 = .int .i64 b ∧ e 3 = .int .i64 m ∧ e 10 = .int .i64 i ∧ i ≤ m ∧ H' = H.set r (.row n 1 (avs rwAQ (P ++ (Y.take i ++ X.drop i) ++ M ++ (X.take i ++ Y.drop i) ++ Q)))) 0 ?_ ?_
  · exact ⟨by simp, by simp, by simp, by simp, by simp, by omega, h00⟩
  rintro i e H' ⟨h0, h1, h2, h3, h10, hi, rfl⟩
  by_cases hlt : i < m
  · have ew := wrap_next hlt (by omega)
    obtain ⟨p, hp⟩ : ∃ p, p = a + i := ⟨_, rfl⟩
    obtain ⟨q, hq⟩ : ∃ q, q = b + i := ⟨_, rfl⟩
    have w1 : IntKind.i64.wrap ((a : Int) + i) = (p : Int) := by rw [wrap_i64 (by omega) (by omega)]; omega
    have w2 : IntKind.i64.wrap ((b : Int) + i) = (q : Int) := by rw [wrap_i64 (by omega) (by omega)]; omega
    have hix : i < X.length := by omega
    have hiy : i < Y.length := by omega
    obtain ⟨x, hxi⟩ : ∃ x, X[i] = x := ⟨_, rfl⟩
    obtain ⟨y, hyi⟩ : ∃ y, Y[i] = y := ⟨_, rfl⟩
    have hsh : P ++ (Y.take i ++ X.drop i) ++ M ++ (X.take i ++ Y.drop i) ++ Q = (P ++ Y.take i) ++ x :: ((X.drop (i + 1) ++ M ++ X.take i) ++ y :: (Y.drop (i + 1) ++ Q)) := by
      rw [List.drop_eq_getElem_cons hix, List.drop_eq_getElem_cons hiy, hxi, hyi]
      simp
    have hA : (P ++ Y.take i).length = p := by simp; omega
    have hB : (P ++ Y.take i).length + 1 + (X.drop (i + 1) ++ M ++ X.take i).length = q := by simp; omega
    have hsw := swap_twoQ (P ++ Y.take i) (X.drop (i + 1) ++ M ++ X.take i) (Y.drop (i + 1) ++ Q) x y
    rw [hB, hA, ← hsh] at hsw
    have hnx : P ++ (Y.take (i + 1) ++ X.drop (i + 1)) ++ M ++ (X.take (i + 1) ++ Y.drop (i + 1)) ++ Q = (P ++ Y.take i) ++ y :: ((X.drop (i + 1) ++ M ++ X.take i) ++ x :: (Y.drop (i + 1) ++ Q)) := by
      rw [take_next hix, take_next hiy, hxi, hyi]
      simp
    rw [← hnx] at hsw
    have g1 : ∀ k, (P ++ (Y.take i ++ X.drop i) ++ M ++ (X.take i ++ Y.drop i) ++ Q)[p]'k = x := fun k => by
      have : (P ++ (Y.take i ++ X.drop i) ++ M ++ (X.take i ++ Y.drop i) ++ Q)[p]? = some x := by rw [hsh, ← hA]; simp
      rw [List.getElem?_eq_getElem k] at this; exact Option.some.inj this
    have g2 : ∀ k, (P ++ (Y.take i ++ X.drop i) ++ M ++ (X.take i ++ Y.drop i) ++ Q)[q]'k = y := fun k => by
      have : (P ++ (Y.take i ++ X.drop i) ++ M ++ (X.take i ++ Y.drop i) ++ Q)[q]? = some y := by rw [hsh, ← hB, List.getElem?_append_right (by omega), show (P ++ Y.take i).length + 1 + (X.drop (i + 1) ++ M ++ X.take i).length - (P ++ Y.take i).length = (X.drop (i + 1) ++ M ++ X.take i).length + 1 by omega]; simp
      rw [List.getElem?_eq_getElem k] at this; exact Option.some.inj this
    have hLl : (P ++ (Y.take i ++ X.drop i) ++ M ++ (X.take i ++ Y.drop i) ++ Q).length = n := by simp; omega
    generalize P ++ (Y.take i ++ X.drop i) ++ M ++ (X.take i ++ Y.drop i) ++ Q = L at *
    have b1 : p < n := by omega
    have b2 : q < n := by omega
    simp [h0, h1, h2, h3, h10, hlt, w1, w2, hLl, g1, g2, b1, b2, hrl]
    refine ⟨by omega, by omega, i + 1, by omega, ew, by omega, ?_⟩
    rw [setIQ (show p < L.length by omega), setIQ (show q < (L.set p y).length by rw [List.length_set]; omega), hsw]
    simp
  · have : i = m := by omega
    subst this
    simp [h0, h1, h2, h3, h10]
    rw [List.take_of_length_le (by omega), List.drop_of_length_le (show X.length ≤ i by omega), List.take_of_length_le (show X.length ≤ i by omega), List.drop_of_length_le (show Y.length ≤ i by omega)]
    simp
theorem td_appQ {α : Type} (k : Nat) (X Z : List α) : X.take k ++ (X.drop k ++ Z) = X ++ Z := by rw [← List.append_assoc, List.take_append_drop]
def RotIQ (T : List Int) (n m i j : Nat) (L : List Int) : Prop := ∃ P X Y Q : List Int, X.length = i ∧ Y.length = j ∧ P.length + i = m ∧ (P ++ X ++ Y ++ Q).length = n ∧ P ++ Y ++ X ++ Q = T ∧ L = P ++ X ++ Y ++ Q
set_option maxHeartbeats 1000000 in
/-- two parts that lie side by side change places -/
theorem S_rotateQ (H : List HO) (r n : Nat) (cv : AV) (P X Y Q : List Int) (a m b : Nat) (hn : (P ++ X ++ Y ++ Q).length = n) (ha : P.length = a) (hm : P.length + X.length = m) (hb : P.length + X.length + Y.length = b) (hx : 0 < X.length) (hy : 0 < Y.length) (hr : H[r]? = some (.row n 1 (avs rwAQ (P ++ X ++ Y ++ Q)))) (h1k : n ≤ 1000) :
    TS Try.prog 187 [.mv r n 1 0 n, .int .i64 a, .int .i64 m, .int .i64 b, cv] H (pt (.tup []) (H.set r (.row n 1 (avs rwAQ (P ++ Y ++ X ++ Q))))) := by
  have hrl := (List.getElem?_eq_some_iff.1 hr).1
  obtain ⟨T, hT⟩ : ∃ T, T = P ++ Y ++ X ++ Q := ⟨_, rfl⟩
  have hl : P.length + X.length + Y.length + Q.length = n := by rw [← hn]; simp; omega
  have w0 : IntKind.i64.wrap ((m : Int) - a) = (X.length : Int) := by rw [wrap_i64 (by omega) (by omega)]; omega
  have w1 : IntKind.i64.wrap ((b : Int) - m) = (Y.length : Int) := by rw [wrap_i64 (by omega) (by omega)]; omega
  have h00 : H = H.set r (.row n 1 (avs rwAQ (P ++ X ++ Y ++ Q))) := by
    have : H[r] = .row n 1 (avs rwAQ (P ++ X ++ Y ++ Q)) := by rw [List.getElem?_eq_getElem hrl] at hr; exact Option.some.inj hr
    rw [← this, List.set_getElem_self]
  rw [← hT]
  refine TS.body mix Try.func187 (by kernel_rfl) rfl (by kernel_rfl) (by simp) ?_
  simp [w0, w1]
  refine vc_loop (fun k : Nat => k) (fun k e H' => ∃ (i j : Nat) (L : List Int), e 0 = .mv r n 1 0 n ∧ e 2 = .int .i64 m ∧ e 4 = cv ∧ e 10 = .int .i64 i ∧ e 11 = .int .i64 j ∧ k = i + j ∧ 0 < i ∧ 0 < j ∧ RotIQ T n m i j L ∧ H' = H.set r (.row n 1 (avs rwAQ L))) (X.length + Y.length) ?_ ?_
  · exact ⟨X.length, Y.length, _, by simp, by simp, by simp, by simp, by simp, rfl, hx, hy, ⟨P, X, Y, Q, rfl, rfl, hm, hn, hT.symm, rfl⟩, h00⟩
  rintro k e H' ⟨i, j, L, h0, h2, h4, h10, h11, rfl, hi, hj, ⟨P', X', Y', Q', hX, hY, hP, hn', hT', rfl⟩, rfl⟩
  have hl' : P'.length + i + j + Q'.length = n := by rw [← hn']; simp; omega
  have hr' : (H.set r (.row n 1 (avs rwAQ (P' ++ X' ++ Y' ++ Q'))))[r]? = some (.row n 1 (avs rwAQ (P' ++ X' ++ Y' ++ Q'))) := List.getElem?_set_self hrl
  obtain ⟨s, hs⟩ : ∃ s, s + i = m := ⟨P'.length, hP⟩
  have w3 : IntKind.i64.wrap ((m : Int) - i) = (s : Int) := by rw [wrap_i64 (by omega) (by omega)]; omega
  by_cases hij : i = j
  · subst hij
    have ks := S_swapRQ (H.set r (.row n 1 (avs rwAQ (P' ++ X' ++ Y' ++ Q')))) r n s m i cv P' X' [] Y' Q' (by simpa using hn') (by omega) (by simp; omega) hX hY (by simpa using hr') h1k
    simp at ks
    simp [h0, h2, h4, h10, h11, w3]
    refine TS.pt ks ?_
    simp
    rw [← hT']
    simp
  · have hne : ¬ (i : Int) = j := by omega
    by_cases hgt : j < i
    · obtain ⟨d, hd⟩ : ∃ d, d + j = i := ⟨i - j, by omega⟩
      have w4 : IntKind.i64.wrap ((i : Int) - j) = (d : Int) := by rw [wrap_i64 (by omega) (by omega)]; omega
      have hX1 : X' = X'.take j ++ X'.drop j := (List.take_append_drop j X').symm
      have ks := S_swapRQ (H.set r (.row n 1 (avs rwAQ (P' ++ X' ++ Y' ++ Q')))) r n s m j cv P' (X'.take j) (X'.drop j) Y' Q' (by simpa using hn') (by omega) (by simp; omega) (by simp; omega) hY (by simpa using hr') h1k
      simp at ks
      have hc : (j : Int) < i := by omega
      have hnx : RotIQ T n m d j (P' ++ (Y' ++ (X'.drop j ++ (X'.take j ++ Q')))) := ⟨P' ++ Y', X'.drop j, X'.take j, Q', by simp; omega, by simp; omega, by simp; omega, by simp; omega, by rw [← hT']; simp [td_appQ], by simp⟩
      simp [h0, h2, h4, h10, h11, w3, hne, hc]
      refine TS.pt ks ?_
      simp [h0, h2, h4, h10, h11, w3, hne, hc, w4]
      exact ⟨d + j, by omega, d, rfl, j, rfl, rfl, by omega, hj, _, hnx, rfl⟩
    · obtain ⟨d, hd⟩ : ∃ d, d + i = j := ⟨j - i, by omega⟩
      obtain ⟨g, hg⟩ : ∃ g, g = m + d := ⟨_, rfl⟩
      obtain ⟨u, hu⟩ : ∃ u, u = m + j := ⟨_, rfl⟩
      have w4 : IntKind.i64.wrap ((j : Int) - i) = (d : Int) := by rw [wrap_i64 (by omega) (by omega)]; omega
      have w5 : IntKind.i64.wrap ((m : Int) + j) = (u : Int) := by rw [wrap_i64 (by omega) (by omega)]; omega
      have w6 : IntKind.i64.wrap ((u : Int) - i) = (g : Int) := by rw [wrap_i64 (by omega) (by omega)]; omega
      have hY1 : Y' = Y'.take d ++ Y'.drop d := (List.take_append_drop d Y').symm
      have e1 : P' ++ X' ++ Y' ++ Q' = P' ++ X' ++ Y'.take d ++ Y'.drop d ++ Q' := by simp [td_appQ]
      have ks := S_swapRQ (H.set r (.row n 1 (avs rwAQ (P' ++ X' ++ Y' ++ Q')))) r n s g i cv P' X' (Y'.take d) (Y'.drop d) Q' (by rw [← e1]; exact hn') (by omega) (by simp; omega) hX (by simp; omega) (by rw [← e1]; exact hr') h1k
      simp at ks
      have hc : ¬ (j : Int) < i := by omega
      have hnx : RotIQ T n m i d (P' ++ (Y'.drop d ++ (Y'.take d ++ (X' ++ Q')))) := ⟨P', Y'.drop d, Y'.take d, X' ++ Q', by simp; omega, by simp; omega, hP, by simp; omega, by rw [← hT']; simp [td_appQ], by simp⟩
      simp [h0, h2, h4, h10, h11, w3, hne, hc, w5, w6]
      refine TS.pt ks ?_
      simp [h0, h2, h4, h10, h11, w3, hne, hc, w4, w5, w6]
      exact ⟨i + d, by omega, i, rfl, d, rfl, rfl, hi, by omega, _, hnx, rfl⟩
structure Cmp3Q (cf : FuncId) (ps : List Int) (c : Int → Int → Int) (le bf : Int → Int → Prop) (ok : Int → Prop) : Prop where
  cmp : ∀ x y, ok x → ok y → T Try.prog cf [rwAQ x, rwAQ y, capA ps] (.int .i64 (c x y))
  trans : ∀ x y z, le x y → le y z → le x z
  total : ∀ x y, ¬ le x y → le y x
  link : ∀ x y, bf x y → (c y x < 0 ↔ ¬ le x y)
def symKQ (H : List HO) (r n : Nat) (le : Int → Int → Prop) (P X Y Q : List Int) (x : AV) (H' : List HO) : Prop := x = .tup [] ∧ ∃ Z : List Int, Z.Perm (X ++ Y) ∧ Z.Pairwise le ∧ H' = H.set r (.row n 1 (avs rwAQ (P ++ Z ++ Q)))
theorem half_wrapQ {p h : Nat} (hp : p < 4611686018427387904) (hh : h = p / 2) : IntKind.i64.wrap ((IntKind.u64.wrap (p : Int)).fdiv 2) = (h : Int) := by
  have e : IntKind.u64.wrap (p : Int) = (p : Int) := by exact wrap_u64 (by omega) (by omega)
  rw [e, show (p : Int).fdiv 2 = (h : Int) by rw [Int.fdiv_eq_ediv_of_nonneg _ (by omega)]; omega]
  exact wrap_i64 (by omega) (by omega)
def cutIQ (le : Int → Int → Prop) (x : Int) (Y : List Int) (m i j : Nat) : Prop := m ≤ i ∧ i ≤ j ∧ j ≤ m + Y.length ∧ (∀ q (h : q < Y.length), m + q < i → ¬ le x Y[q]) ∧ (∀ q (h : q < Y.length), j ≤ m + q → le x Y[q])
theorem S_sym1Q {cf : FuncId} {ps : List Int} {c : Int → Int → Int} {le bf : Int → Int → Prop} {ok : Int → Prop} (hC : Cmp3Q cf ps c le bf ok) (H : List HO) (r n : Nat) (P : List Int) (x : Int) (Y Q : List Int) (a m b : Nat) (hn : (P ++ [x] ++ Y ++ Q).length = n) (ha : P.length = a) (hm : P.length + 1 = m) (hb : P.length + 1 + Y.length = b) (hr : H[r]? = some (.row n 1 (avs rwAQ (P ++ [x] ++ Y ++ Q)))) (h1k : n ≤ 1000)
    (hok : ∀ z, z ∈ x :: Y → ok z) (hbf : ∀ y, y ∈ Y → bf x y) (hY : Y.Pairwise le) :
    TS Try.prog 171 [.mv r n 1 0 n, .int .i64 a, .int .i64 m, .int .i64 b, .fn (.func cf) [] [capA ps]] H (symKQ H r n le P [x] Y Q) := by
  have hrl := (List.getElem?_eq_some_iff.1 hr).1
  have hl : P.length + 1 + Y.length + Q.length = n := by rw [← hn]; simp; omega
  have w0 : IntKind.i64.wrap ((m : Int) - a) = 1 := by rw [wrap_i64 (by omega) (by omega)]; omega
  refine TS.body mix Try.func171 (by kernel_rfl) rfl (by kernel_rfl) (by simp) ?_
  simp [w0]
  obtain ⟨L, hL⟩ : ∃ L, L = P ++ [x] ++ Y ++ Q := ⟨_, rfl⟩
  have hLl : L.length = n := by rw [hL]; exact hn
  have hLx : ∀ k, L[a]'k = x := fun k => by
    have : L[a]? = some x := by rw [hL, ← ha]; simp
    rw [List.getElem?_eq_getElem k] at this; exact Option.some.inj this
  have hLy : ∀ q (h : q < Y.length) k, L[m + q]'k = Y[q] := fun q h k => by
    have : L[m + q]? = some Y[q] := by
      rw [hL, List.append_assoc, List.getElem?_append_right (by simp; omega)]
      simp
      rw [List.getElem?_append_left (by omega), show m + q - (P.length + 1) = q by omega, List.getElem?_eq_getElem h]
    rw [List.getElem?_eq_getElem k] at this; exact Option.some.inj this
  have hYs : ∀ q q', q < q' → ∀ (h : q < Y.length) (h' : q' < Y.length), le Y[q] Y[q'] := fun q q' hq h h' => List.pairwise_iff_getElem.1 hY q q' h h' hq
  rw [← hL] at hr
  refine vc_loop (fun k : Nat => k) (fun k e H' => ∃ (i j : Nat), e 0 = .mv r n 1 0 n ∧ e 1 = .int .i64 a ∧ e 4 = .fn (.func cf) [] [capA ps] ∧ e 10 = .int .i64 i ∧ e 11 = .int .i64 j ∧ k = j - i ∧ cutIQ le x Y m i j ∧ H' = H) Y.length ?_ ?_
  · exact ⟨m, b, by simp, by simp, by simp, by simp, by simp, by omega, ⟨by omega, by omega, by omega, fun q h1 h2 => by omega, fun q h1 h2 => by omega⟩, rfl⟩
  rintro k e H' ⟨i, j, h0, h1, h4, h10, h11, rfl, ⟨hmi, hij, hj, hlo, hhi⟩, rfl⟩
  by_cases hlt : i < j
  · obtain ⟨p, hp⟩ : ∃ p, p = i + j := ⟨_, rfl⟩
    have w1 : IntKind.i64.wrap ((i : Int) + j) = (p : Int) := by rw [wrap_i64 (by omega) (by omega)]; omega
    obtain ⟨h, hh⟩ : ∃ h, h = p / 2 := ⟨_, rfl⟩
    have w2 := half_wrapQ (p := p) (h := h) (by omega) hh
    obtain ⟨q, hq⟩ : ∃ q, h = m + q := ⟨h - m, by omega⟩
    have hqY : q < Y.length := by omega
    have b1 : h < n := by omega
    have b2 : a < n := by omega
    have g2 : ∀ k, L[h]'k = Y[q] := fun k => by subst hq; exact hLy q hqY k
    have kc := hC.cmp Y[q] x (hok _ (List.mem_cons_of_mem _ (List.getElem_mem hqY))) (hok _ List.mem_cons_self)
    have hlk := hC.link x Y[q] (hbf _ (List.getElem_mem hqY))
    have w3 : IntKind.i64.wrap ((h : Int) + 1) = ((h + 1 : Nat) : Int) := by rw [wrap_i64 (by omega) (by omega)]; omega
    simp [h0, h1, h4, h10, h11, hlt, w1, w2, hr, hLl, hLx, g2, b1, b2]
    refine TDK.callW kc (Dws.self (by simp)) ?_
    by_cases hcc : c Y[q] x < 0
    · have hle := hlk.1 hcc
      simp [h0, h1, h4, h10, h11, hlt, w1, w2, hr, hLl, hLx, g2, b1, b2, hcc]
      refine ⟨j - (h + 1), by omega, h + 1, w3, j, rfl, rfl, by omega, by omega, hj, fun t ht hth h2 => ?_, hhi⟩
      by_cases htq : t = q
      · subst htq; exact hle h2
      · exact hle (hC.trans _ _ _ h2 (hYs t q (by omega) ht hqY))
    · have hle : le x Y[q] := Classical.byContradiction fun h2 => hcc (hlk.2 h2)
      simp [h0, h1, h4, h10, h11, hlt, w1, w2, hr, hLl, hLx, g2, b1, b2, hcc]
      refine ⟨h - i, by omega, i, rfl, h, rfl, rfl, by omega, by omega, by omega, hlo, fun t ht hth => ?_⟩
      by_cases htq : t = q
      · subst htq; exact hle
      · exact hC.trans _ _ _ hle (hYs q t (by omega) hqY ht)
  · have : i = j := by omega
    subst this
    obtain ⟨t, ht⟩ : ∃ t, i = m + t := ⟨i - m, by omega⟩
    have htY : t ≤ Y.length := by omega
    obtain ⟨u, hu⟩ : ∃ u, u = a + t := ⟨_, rfl⟩
    have w4 : IntKind.i64.wrap ((i : Int) - 1) = (u : Int) := by rw [wrap_i64 (by omega) (by omega)]; omega
    have hfin : symKQ H' r n le P [x] Y Q (.tup []) (H'.set r (.row n 1 (avs rwAQ (P ++ (Y.take t ++ x :: Y.drop t) ++ Q)))) := by
      refine ⟨rfl, Y.take t ++ x :: Y.drop t, ?_, ?_, rfl⟩
      · refine List.Perm.trans List.perm_middle ?_
        rw [List.take_append_drop]
        exact List.Perm.refl _
      · have hsp : (Y.take t ++ Y.drop t).Pairwise le := by rw [List.take_append_drop]; exact hY
        rw [List.pairwise_append] at hsp ⊢
        refine ⟨hsp.1, List.pairwise_cons.2 ⟨fun y hy => ?_, hsp.2.1⟩, fun y hy z hz => ?_⟩
        · obtain ⟨q, hq, rfl⟩ := List.mem_drop_iff_getElem.1 hy
          exact hhi _ _ (by omega)
        · rw [List.mem_cons] at hz
          rcases hz with rfl | hz
          · obtain ⟨q, hq, rfl⟩ := List.mem_take_iff_getElem.1 hy
            exact hC.total _ _ (hlo q (by omega) (by omega))
          · exact hsp.2.2 y hy z hz
    have hsame : H'.set r (.row n 1 (avs rwAQ (P ++ (Y.take 0 ++ x :: Y.drop 0) ++ Q))) = H' := by
      have : H'[r] = .row n 1 (avs rwAQ L) := by rw [List.getElem?_eq_getElem hrl] at hr; exact Option.some.inj hr
      have e2 : P ++ (Y.take 0 ++ x :: Y.drop 0) ++ Q = L := by rw [hL]; simp
      rw [e2, ← this, List.set_getElem_self]
    simp [h0, h1, h4, h10, h11]
    refine vc_loop (fun k : Nat => t - k) (fun s e H2 => e 0 = .mv r n 1 0 n ∧ e 10 = .int .i64 i ∧ e 13 = .int .i64 (a + s : Nat) ∧ s ≤ t ∧ H2 = H'.set r (.row n 1 (avs rwAQ (P ++ (Y.take s ++ x :: Y.drop s) ++ Q)))) 0 ?_ ?_
    · exact ⟨by simp [h0], by simp [h10], by simp, by omega, hsame.symm⟩
    clear h0 h1 h4 h10 h11 e
    rintro s e H2 ⟨h0, h10, h13, hs, rfl⟩
    obtain ⟨p, hp⟩ : ∃ p, p = a + s := ⟨_, rfl⟩
    rw [← hp] at h13
    by_cases hst : s < t
    · have hsY : s < Y.length := by omega
      obtain ⟨y, hy⟩ : ∃ y, Y[s] = y := ⟨_, rfl⟩
      obtain ⟨q, hq⟩ : ∃ q, q = p + 1 := ⟨_, rfl⟩
      have w5 : IntKind.i64.wrap ((p : Int) + 1) = (q : Int) := by rw [wrap_i64 (by omega) (by omega)]; omega
      have hsh : P ++ (Y.take s ++ x :: Y.drop s) ++ Q = (P ++ Y.take s) ++ x :: ([] ++ y :: (Y.drop (s + 1) ++ Q)) := by
        rw [List.drop_eq_getElem_cons hsY, hy]; simp
      have hA : (P ++ Y.take s).length = p := by simp; omega
      have hB : (P ++ Y.take s).length + 1 + ([] : List Int).length = q := by rw [hA]; simp; omega
      have hsw := swap_twoQ (P ++ Y.take s) [] (Y.drop (s + 1) ++ Q) x y
      rw [hB, hA, ← hsh] at hsw
      have hnx : P ++ (Y.take (s + 1) ++ x :: Y.drop (s + 1)) ++ Q = (P ++ Y.take s) ++ y :: ([] ++ x :: (Y.drop (s + 1) ++ Q)) := by
        rw [take_next hsY, hy]; simp
      rw [← hnx] at hsw
      have g1 : ∀ k, (P ++ (Y.take s ++ x :: Y.drop s) ++ Q)[p]'k = x := fun k => by
        have : (P ++ (Y.take s ++ x :: Y.drop s) ++ Q)[p]? = some x := by rw [hsh, ← hA]; simp
        rw [List.getElem?_eq_getElem k] at this; exact Option.some.inj this
      have g2 : ∀ k, (P ++ (Y.take s ++ x :: Y.drop s) ++ Q)[q]'k = y := fun k => by
        have : (P ++ (Y.take s ++ x :: Y.drop s) ++ Q)[q]? = some y := by rw [hsh, ← hB, List.getElem?_append_right (by omega), show (P ++ Y.take s).length + 1 + ([] : List Int).length - (P ++ Y.take s).length = 1 by simp]; simp
        rw [List.getElem?_eq_getElem k] at this; exact Option.some.inj this
      have hll : (P ++ (Y.take s ++ x :: Y.drop s) ++ Q).length = n := by simp; omega
      generalize P ++ (Y.take s ++ x :: Y.drop s) ++ Q = K at *
      have b1 : p < n := by omega
      have b2 : q < n := by omega
      have hc : p < u := by omega
      simp [h0, h10, h13, w4, w5, hc, hll, g1, g2, b1, b2, hrl]
      refine ⟨by omega, by omega, s + 1, by omega, by omega, by omega, ?_⟩
      rw [setIQ (show p < K.length by omega), setIQ (show q < (K.set p y).length by rw [List.length_set]; omega), hsw]
      simp
    · have : s = t := by omega
      subst this
      have hc : ¬ p < u := by omega
      simp [h0, h10, h13, w4, hc]
      simpa using hfin
def cutJQ (le : Int → Int → Prop) (y : Int) (X : List Int) (a i j : Nat) : Prop := a ≤ i ∧ i ≤ j ∧ j ≤ a + X.length ∧ (∀ q (h : q < X.length), a + q < i → le X[q] y) ∧ (∀ q (h : q < X.length), j ≤ a + q → ¬ le X[q] y)
theorem S_sym2Q {cf : FuncId} {ps : List Int} {c : Int → Int → Int} {le bf : Int → Int → Prop} {ok : Int → Prop} (hC : Cmp3Q cf ps c le bf ok) (H : List HO) (r n : Nat) (P X : List Int) (y : Int) (Q : List Int) (a m b : Nat) (hn : (P ++ X ++ [y] ++ Q).length = n) (ha : P.length = a) (hm : P.length + X.length = m) (hb : m + 1 = b) (hX2 : 2 ≤ X.length) (hr : H[r]? = some (.row n 1 (avs rwAQ (P ++ X ++ [y] ++ Q)))) (h1k : n ≤ 1000)
    (hok : ∀ z, z ∈ X ++ [y] → ok z) (hbf : ∀ x, x ∈ X → bf x y) (hX : X.Pairwise le) :
    TS Try.prog 171 [.mv r n 1 0 n, .int .i64 a, .int .i64 m, .int .i64 b, .fn (.func cf) [] [capA ps]] H (symKQ H r n le P X [y] Q) := by
  have hrl := (List.getElem?_eq_some_iff.1 hr).1
  have hl : P.length + X.length + 1 + Q.length = n := by rw [← hn]; simp; omega
  obtain ⟨d, hd⟩ : ∃ d, d = X.length := ⟨_, rfl⟩
  have w0 : IntKind.i64.wrap ((m : Int) - a) = (d : Int) := by rw [wrap_i64 (by omega) (by omega)]; omega
  have w0b : IntKind.i64.wrap ((b : Int) - m) = 1 := by rw [wrap_i64 (by omega) (by omega)]; omega
  have hd1 : ¬ (d : Int) = 1 := by omega
  refine TS.body mix Try.func171 (by kernel_rfl) rfl (by kernel_rfl) (by simp) ?_
  simp [w0, w0b, hd1]
  obtain ⟨L, hL⟩ : ∃ L, L = P ++ X ++ [y] ++ Q := ⟨_, rfl⟩
  have hLl : L.length = n := by rw [hL]; exact hn
  have hLy : ∀ k, L[m]'k = y := fun k => by
    have : L[m]? = some y := by rw [hL, ← hm]; simp
    rw [List.getElem?_eq_getElem k] at this; exact Option.some.inj this
  have hLx : ∀ q (h : q < X.length) k, L[a + q]'k = X[q] := fun q h k => by
    have : L[a + q]? = some X[q] := by
      rw [hL, List.append_assoc, List.append_assoc, List.getElem?_append_right (by omega), show a + q - P.length = q by omega, List.getElem?_append_left h, List.getElem?_eq_getElem h]
    rw [List.getElem?_eq_getElem k] at this; exact Option.some.inj this
  have hXs : ∀ q q', q < q' → ∀ (h : q < X.length) (h' : q' < X.length), le X[q] X[q'] := fun q q' hq h h' => List.pairwise_iff_getElem.1 hX q q' h h' hq
  rw [← hL] at hr
  refine vc_loop (fun k : Nat => k) (fun k e H' => ∃ (i j : Nat), e 0 = .mv r n 1 0 n ∧ e 2 = .int .i64 m ∧ e 4 = .fn (.func cf) [] [capA ps] ∧ e 14 = .int .i64 i ∧ e 15 = .int .i64 j ∧ k = j - i ∧ cutJQ le y X a i j ∧ H' = H) X.length ?_ ?_
  · exact ⟨a, m, by simp, by simp, by simp, by simp, by simp, by omega, ⟨by omega, by omega, by omega, fun q h1 h2 => by omega, fun q h1 h2 => by omega⟩, rfl⟩
  rintro k e H' ⟨i, j, h0, h2, h4, h14, h15, rfl, ⟨hai, hij, hj, hlo, hhi⟩, rfl⟩
  by_cases hlt : i < j
  · obtain ⟨p, hp⟩ : ∃ p, p = i + j := ⟨_, rfl⟩
    have w1 : IntKind.i64.wrap ((i : Int) + j) = (p : Int) := by rw [wrap_i64 (by omega) (by omega)]; omega
    obtain ⟨h, hh⟩ : ∃ h, h = p / 2 := ⟨_, rfl⟩
    have w2 := half_wrapQ (p := p) (h := h) (by omega) hh
    obtain ⟨q, hq⟩ : ∃ q, h = a + q := ⟨h - a, by omega⟩
    have hqX : q < X.length := by omega
    have b1 : h < n := by omega
    have b2 : m < n := by omega
    have g2 : ∀ k, L[h]'k = X[q] := fun k => by subst hq; exact hLx q hqX k
    have kc := hC.cmp y X[q] (hok _ (by simp)) (hok _ (List.mem_append_left _ (List.getElem_mem hqX)))
    have hlk := hC.link X[q] y (hbf _ (List.getElem_mem hqX))
    have w3 : IntKind.i64.wrap ((h : Int) + 1) = ((h + 1 : Nat) : Int) := by rw [wrap_i64 (by omega) (by omega)]; omega
    simp [h0, h2, h4, h14, h15, hlt, w1, w2, hr, hLl, hLy, g2, b1, b2]
    refine TDK.callW kc (Dws.self (by simp)) ?_
    by_cases hcc : c y X[q] < 0
    · have hle := hlk.1 hcc
      simp [h0, h2, h4, h14, h15, hlt, w1, w2, hr, hLl, hLy, g2, b1, b2, hcc]
      refine ⟨h - i, by omega, i, rfl, h, rfl, rfl, by omega, by omega, by omega, hlo, fun t ht hth h3 => ?_⟩
      by_cases htq : t = q
      · subst htq; exact hle h3
      · exact hle (hC.trans _ _ _ (hXs q t (by omega) hqX ht) h3)
    · have hle : le X[q] y := Classical.byContradiction fun h2 => hcc (hlk.2 h2)
      have hcc' : 0 ≤ c y X[q] := by omega
      simp [h0, h2, h4, h14, h15, hlt, w1, w2, hr, hLl, hLy, g2, b1, b2, hcc, hcc']
      refine ⟨j - (h + 1), by omega, h + 1, w3, j, rfl, rfl, by omega, by omega, hj, fun t ht hth => ?_, hhi⟩
      by_cases htq : t = q
      · subst htq; exact hle
      · exact hC.trans _ _ _ (hXs t q (by omega) ht hqX) hle
  · have : i = j := by omega
    subst this
    obtain ⟨t, ht⟩ : ∃ t, i = a + t := ⟨i - a, by omega⟩
    have htX : t ≤ X.length := by omega
    have hfin : symKQ H' r n le P X [y] Q (.tup []) (H'.set r (.row n 1 (avs rwAQ (P ++ (X.take t ++ y :: X.drop t) ++ Q)))) := by
      refine ⟨rfl, X.take t ++ y :: X.drop t, ?_, ?_, rfl⟩
      · refine List.Perm.trans List.perm_middle ?_
        rw [List.take_append_drop]
        exact (List.perm_append_comm (l₁ := X) (l₂ := [y])).symm
      · have hsp : (X.take t ++ X.drop t).Pairwise le := by rw [List.take_append_drop]; exact hX
        rw [List.pairwise_append] at hsp ⊢
        refine ⟨hsp.1, List.pairwise_cons.2 ⟨fun z hz => ?_, hsp.2.1⟩, fun z hz w hw => ?_⟩
        · obtain ⟨q, hq, rfl⟩ := List.mem_drop_iff_getElem.1 hz
          exact hC.total _ _ (hhi _ _ (by omega))
        · rw [List.mem_cons] at hw
          rcases hw with rfl | hw
          · obtain ⟨q, hq, rfl⟩ := List.mem_take_iff_getElem.1 hz
            exact hlo q (by omega) (by omega)
          · exact hsp.2.2 z hz w hw
    have hsame : H'.set r (.row n 1 (avs rwAQ (P ++ (X.take X.length ++ y :: X.drop X.length) ++ Q))) = H' := by
      have : H'[r] = .row n 1 (avs rwAQ L) := by rw [List.getElem?_eq_getElem hrl] at hr; exact Option.some.inj hr
      have e2 : P ++ (X.take X.length ++ y :: X.drop X.length) ++ Q = L := by rw [hL]; simp
      rw [e2, ← this, List.set_getElem_self]
    simp [h0, h2, h4, h14, h15]
    refine vc_loop (fun k : Nat => k) (fun s e H2 => e 0 = .mv r n 1 0 n ∧ e 14 = .int .i64 i ∧ e 17 = .int .i64 (a + s : Nat) ∧ t ≤ s ∧ s ≤ X.length ∧ H2 = H'.set r (.row n 1 (avs rwAQ (P ++ (X.take s ++ y :: X.drop s) ++ Q)))) X.length ?_ ?_
    · exact ⟨by simp [h0], by simp [h14], by simp; omega, by omega, by omega, hsame.symm⟩
    clear h0 h2 h4 h14 h15 e
    rintro s e H2 ⟨h0, h14, h17, hs, hsX, rfl⟩
    obtain ⟨p, hp⟩ : ∃ p, p = a + s := ⟨_, rfl⟩
    rw [← hp] at h17
    by_cases hst : t < s
    · obtain ⟨s1, hs1⟩ : ∃ s1, s = s1 + 1 := ⟨s - 1, by omega⟩
      subst hs1
      have hsX1 : s1 < X.length := by omega
      obtain ⟨x, hx⟩ : ∃ x, X[s1] = x := ⟨_, rfl⟩
      obtain ⟨q, hq⟩ : ∃ q, p = q + 1 := ⟨p - 1, by omega⟩
      have w5 : IntKind.i64.wrap ((p : Int) - 1) = (q : Int) := by rw [wrap_i64 (by omega) (by omega)]; omega
      have hsh : P ++ (X.take (s1 + 1) ++ y :: X.drop (s1 + 1)) ++ Q = (P ++ X.take s1) ++ x :: ([] ++ y :: (X.drop (s1 + 1) ++ Q)) := by
        rw [take_next hsX1, hx]; simp
      have hA : (P ++ X.take s1).length = q := by simp; omega
      have hB : (P ++ X.take s1).length + 1 + ([] : List Int).length = p := by rw [hA]; simp; omega
      have hsw := swap_twoQ (P ++ X.take s1) [] (X.drop (s1 + 1) ++ Q) x y
      rw [hB, hA, ← hsh] at hsw
      have hnx : P ++ (X.take s1 ++ y :: X.drop s1) ++ Q = (P ++ X.take s1) ++ y :: ([] ++ x :: (X.drop (s1 + 1) ++ Q)) := by
        rw [List.drop_eq_getElem_cons hsX1, hx]; simp
      rw [← hnx] at hsw
      have g1 : ∀ k, (P ++ (X.take (s1 + 1) ++ y :: X.drop (s1 + 1)) ++ Q)[q]'k = x := fun k => by
        have : (P ++ (X.take (s1 + 1) ++ y :: X.drop (s1 + 1)) ++ Q)[q]? = some x := by rw [hsh, ← hA]; simp
        rw [List.getElem?_eq_getElem k] at this; exact Option.some.inj this
      have g2 : ∀ k, (P ++ (X.take (s1 + 1) ++ y :: X.drop (s1 + 1)) ++ Q)[p]'k = y := fun k => by
        have : (P ++ (X.take (s1 + 1) ++ y :: X.drop (s1 + 1)) ++ Q)[p]? = some y := by rw [hsh, ← hB, List.getElem?_append_right (by omega), show (P ++ X.take s1).length + 1 + ([] : List Int).length - (P ++ X.take s1).length = 1 by simp]; simp
        rw [List.getElem?_eq_getElem k] at this; exact Option.some.inj this
      have hll : (P ++ (X.take (s1 + 1) ++ y :: X.drop (s1 + 1)) ++ Q).length = n := by simp; omega
      generalize P ++ (X.take (s1 + 1) ++ y :: X.drop (s1 + 1)) ++ Q = K at *
      have b1 : p < n := by omega
      have b2 : q < n := by omega
      have hc : i < p := by omega
      simp [h0, h14, h17, w5, hc, hll, g1, g2, b1, b2, hrl]
      refine ⟨by omega, by omega, s1, by omega, by omega, by omega, by omega, ?_⟩
      rw [setIQ (show p < K.length by omega), setIQ (show q < (K.set p x).length by rw [List.length_set]; omega), List.set_comm _ _ (by omega), hsw]
      simp
    · have : s = t := by omega
      subst this
      have hc : ¬ i < p := by omega
      simp [h0, h14, h17, hc]
      simpa using hfin
