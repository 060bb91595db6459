/- Contracts of functions of the program, and plain laws (part 2): slices.SortStableFunc on numbers; slices.SortStableFunc on numbers: the merge by itself, and all; the merge by itself, where the middle lies in the second part  all. -/
import Derived.Test.YtjplcdeaedflpaaGreatDoorB0
import Derived.Test.YtjplcdeaedflpaaGreatDoorB1
namespace Go.Proofs.YtjplcdeaedflpaaGreatDoor.PL
open Go.Proofs
set_option linter.unusedVariables false
set_option linter.unusedSimpArgs false
abbrev rwAQ (r : Int) : AV := AV.int .i64 r
abbrev capA (ps : List Int) : AV := .ref [.sl .no (ints' ps)]
theorem setIQ {α : Type} {L : List α} {j : Nat} (hj : j < L.length) {x : α} : L.take j ++ x :: L.drop (j + 1) = L.set j x := by
  rw [List.set_eq_take_append_cons_drop, if_pos hj]
theorem swap_twoQ {α : Type} (A B C : List α) (x y : α) : ((A ++ x :: (B ++ y :: C)).set A.length y).set (A.length + 1 + B.length) x = A ++ y :: (B ++ x :: C) := by
  have e1 : (A ++ x :: (B ++ y :: C)).set A.length y = A ++ y :: (B ++ y :: C) := by simp
  rw [e1]
  rw [List.set_append_right _ _ (by omega), show A.length + 1 + B.length - A.length = B.length + 1 by omega, List.set_cons_succ, List.set_append_right _ _ (by omega), Nat.sub_self, List.set_cons_zero]
theorem S_swapRQ (H : List HO) (r n a b m : Nat) (cv : AV) (P X M Y Q : List Int) (hn : (P ++ X ++ M ++ Y ++ Q).length = n) (ha : P.length = a) (hb : P.length + X.length + M.length = b) (hx : X.length = m) (hy : Y.length = m) (hr : H[r]? = some (.row n 1 (avs rwAQ (P ++ X ++ M ++ Y ++ Q)))) (h1k : n ≤ 1000) :
    TS Tryz.prog 183 [.mv r n 1 0 n, .int .i64 a, .int .i64 b, .int .i64 m, cv] H (pt (.tup []) (H.set r (.row n 1 (avs rwAQ (P ++ Y ++ M ++ X ++ Q))))) := by
  have hrl := (List.getElem?_eq_some_iff.1 hr).1
  have hl : P.length + X.length + M.length + Y.length + Q.length = n := by rw [← hn]; simp; omega
  have h00 : H = H.set r (.row n 1 (avs rwAQ (P ++ (Y.take 0 ++ X.drop 0) ++ M ++ (X.take 0 ++ Y.drop 0) ++ Q))) := by
    have : H[r] = .row n 1 (avs rwAQ (P ++ X ++ M ++ Y ++ Q)) := by rw [List.getElem?_eq_getElem hrl] at hr; exact Option.some.inj hr
    simp only [List.take_zero, List.drop_zero, List.nil_append]
    rw [← this, List.set_getElem_self]
  refine TS.body mix Tryz.func183 (by kernel_rfl) rfl (by kernel_rfl) (by simp) ?_
  simp
  refine vc_loop (fun i : Nat => m - i) (fun i e H' => e 0 = .mv r n 1 0 n ∧ e 1 = .int .i64 a ∧ e 2 = .int .i64 b ∧ e 3 = .int .i64 m ∧ e 10 = .int .i64 i ∧ i ≤ m ∧ H' = H.set r (.row n 1 (avs rwAQ (P ++ (Y.take i ++ X.drop i) ++ M ++ (X.take i ++ Y.drop i) ++ Q)))) 0 ?_ ?_
  · exact ⟨by simp, by simp, by simp, by simp, by simp, by omega, h00⟩
  rintro i e H' ⟨h0, h1, h2, h3, h10, hi, rfl⟩
  by_cases hlt : i < m
  · have ew := wrap_next hlt (by omega)
    obtain ⟨p, hp⟩ : ∃ p, p = a + i := ⟨_, rfl⟩
    obtain ⟨q, hq⟩ : ∃ q, q = b + i := ⟨_, rfl⟩
    have w1 : IntKind.i64.wrap ((a : Int) + i) = (p : Int) := by rw [wrap_i64 (by omega) (by omega)]; omega
    have w2 : IntKind.i64.wrap ((b : Int) + i) = (q : Int) := by rw [wrap_i64 (by omega) (by omega)]; omega
    have hix : i < X.length := by omega
    have hiy : i < Y.length := by omega
    obtain ⟨x, hxi⟩ : ∃ x, X[i] = x := ⟨_, rfl⟩
    obtain ⟨y, hyi⟩ : ∃ y, Y[i] = y := ⟨_, rfl⟩
    have hsh : P ++ (Y.take i ++ X.drop i) ++ M ++ (X.take i ++ Y.drop i) ++ Q = (P ++ Y.take i) ++ x :: ((X.drop (i + 1) ++ M ++ X.take i) ++ y :: (Y.drop (i + 1) ++ Q)) := by
      rw [List.drop_eq_getElem_cons hix, List.drop_eq_getElem_cons hiy, hxi, hyi]
      simp
    have hA : (P ++ Y.take i).length = p := by simp; omega
    have hB : (P ++ Y.take i).length + 1 + (X.drop (i + 1) ++ M ++ X.take i).length = q := by simp; omega
    have hsw := swap_twoQ (P ++ Y.take i) (X.drop (i + 1) ++ M ++ X.take i) (Y.drop (i + 1) ++ Q) x y
    rw [hB, hA, ← hsh] at hsw
    have hnx : P ++ (Y.take (i + 1) ++ X.drop (i + 1)) ++ M ++ (X.take (i + 1) ++ Y.drop (i + 1)) ++ Q = (P ++ Y.take i) ++ y :: ((X.drop (i + 1) ++ M ++ X.take i) ++ x :: (Y.drop (i + 1) ++ Q)) := by
      rw [take_next hix, take_next hiy, hxi, hyi]
      simp
    rw [← hnx] at hsw
    have g1 : ∀ k, (P ++ (Y.take i ++ X.drop i) ++ M ++ (X.take i ++ Y.drop i) ++ Q)[p]'k = x := fun k => by
      have : (P ++ (Y.take i ++ X.drop i) ++ M ++ (X.take i ++ Y.drop i) ++ Q)[p]? = some x := by rw [hsh, ← hA]; simp
      rw [List.getElem?_eq_getElem k] at this; exact Option.some.inj this
    have g2 : ∀ k, (P ++ (Y.take i ++ X.drop i) ++ M ++ (X.take i ++ Y.drop i) ++ Q)[q]'k = y := fun k => by
      have : (P ++ (Y.take i ++ X.drop i) ++ M ++ (X.take i ++ Y.drop i) ++ Q)[q]? = some y := by rw [hsh, ← hB, List.getElem?_append_right (by omega), show (P ++ Y.take i).length + 1 + (X.drop (i + 1) ++ M ++ X.take i).length - (P ++ Y.take i).length = (X.drop (i + 1) ++ M ++ X.take i).length + 1 by omega]; simp
      rw [List.getElem?_eq_getElem k] at this; exact Option.some.inj this
    have hLl : (P ++ (Y.take i ++ X.drop i) ++ M ++ (X.take i ++ Y.drop i) ++ Q).length = n := by simp; omega
    generalize P ++ (Y.take i ++ X.drop i) ++ M ++ (X.take i ++ Y.drop i) ++ Q = L at *
    have b1 : p < n := by omega
    have b2 : q < n := by omega
    simp [h0, h1, h2, h3, h10, hlt, w1, w2, hLl, g1, g2, b1, b2, hrl]
    refine ⟨by omega, by omega, i + 1, by omega, ew, by omega, ?_⟩
    rw [setIQ (show p < L.length by omega), setIQ (show q < (L.set p y).length by rw [List.length_set]; omega), hsw]
    simp
  · have : i = m := by omega
    subst this
    simp [h0, h1, h2, h3, h10]
    rw [List.take_of_length_le (by omega), List.drop_of_length_le (show X.length ≤ i by omega), List.take_of_length_le (show X.length ≤ i by omega), List.drop_of_length_le (show Y.length ≤ i by omega)]
    simp
theorem td_appQ {α : Type} (k : Nat) (X Z : List α) : X.take k ++ (X.drop k ++ Z) = X ++ Z := by rw [← List.append_assoc, List.take_append_drop]
def RotIQ (T : List Int) (n m i j : Nat) (L : List Int) : Prop := ∃ P X Y Q : List Int, X.length = i ∧ Y.length = j ∧ P.length + i = m ∧ (P ++ X ++ Y ++ Q).length = n ∧ P ++ Y ++ X ++ Q = T ∧ L = P ++ X ++ Y ++ Q
set_option maxHeartbeats 1000000 in
/-- two parts that lie side by side change places -/
theorem S_rotateQ (H : List HO) (r n : Nat) (cv : AV) (P X Y Q : List Int) (a m b : Nat) (hn : (P ++ X ++ Y ++ Q).length = n) (ha : P.length = a) (hm : P.length + X.length = m) (hb : P.length + X.length + Y.length = b) (hx : 0 < X.length) (hy : 0 < Y.length) (hr : H[r]? = some (.row n 1 (avs rwAQ (P ++ X ++ Y ++ Q)))) (h1k : n ≤ 1000) :
    TS Tryz.prog 174 [.mv r n 1 0 n, .int .i64 a, .int .i64 m, .int .i64 b, cv] H (pt (.tup []) (H.set r (.row n 1 (avs rwAQ (P ++ Y ++ X ++ Q))))) := by
  have hrl := (List.getElem?_eq_some_iff.1 hr).1
  obtain ⟨T, hT⟩ : ∃ T, T = P ++ Y ++ X ++ Q := ⟨_, rfl⟩
  have hl : P.length + X.length + Y.length + Q.length = n := by rw [← hn]; simp; omega
  have w0 : IntKind.i64.wrap ((m : Int) - a) = (X.length : Int) := by rw [wrap_i64 (by omega) (by omega)]; omega
  have w1 : IntKind.i64.wrap ((b : Int) - m) = (Y.length : Int) := by rw [wrap_i64 (by omega) (by omega)]; omega
  have h00 : H = H.set r (.row n 1 (avs rwAQ (P ++ X ++ Y ++ Q))) := by
    have : H[r] = .row n 1 (avs rwAQ (P ++ X ++ Y ++ Q)) := by rw [List.getElem?_eq_getElem hrl] at hr; exact Option.some.inj hr
    rw [← this, List.set_getElem_self]
  rw [← hT]
  refine TS.body mix Tryz.func174 (by kernel_rfl) rfl (by kernel_rfl) (by simp) ?_
  simp [w0, w1]
  refine vc_loop (fun k : Nat => k) (fun k e H' => ∃ (i j : Nat) (L : List Int), e 0 = .mv r n 1 0 n ∧ e 2 = .int .i64 m ∧ e 4 = cv ∧ e 10 = .int .i64 i ∧ e 11 = .int .i64 j ∧ k = i + j ∧ 0 < i ∧ 0 < j ∧ RotIQ T n m i j L ∧ H' = H.set r (.row n 1 (avs rwAQ L))) (X.length + Y.length) ?_ ?_
  · exact ⟨X.length, Y.length, _, by simp, by simp, by simp, by simp, by simp, rfl, hx, hy, ⟨P, X, Y, Q, rfl, rfl, hm, hn, hT.symm, rfl⟩, h00⟩
  rintro k e H' ⟨i, j, L, h0, h2, h4, h10, h11, rfl, hi, hj, ⟨P', X', Y', Q', hX, hY, hP, hn', hT', rfl⟩, rfl⟩
  have hl' : P'.length + i + j + Q'.length = n := by rw [← hn']; simp; omega
  have hr' : (H.set r (.row n 1 (avs rwAQ (P' ++ X' ++ Y' ++ Q'))))[r]? = some (.row n 1 (avs rwAQ (P' ++ X' ++ Y' ++ Q'))) := List.getElem?_set_self hrl
  obtain ⟨s, hs⟩ : ∃ s, s + i = m := ⟨P'.length, hP⟩
  have w3 : IntKind.i64.wrap ((m : Int) - i) = (s : Int) := by rw [wrap_i64 (by omega) (by omega)]; omega
  by_cases hij : i = j
  · subst hij
    have ks := S_swapRQ (H.set r (.row n 1 (avs rwAQ (P' ++ X' ++ Y' ++ Q')))) r n s m i cv P' X' [] Y' Q' (by simpa using hn') (by omega) (by simp; omega) hX hY (by simpa using hr') h1k
    simp at ks
    simp [h0, h2, h4, h10, h11, w3]
    refine TS.pt ks ?_
    simp
    rw [← hT']
    simp
  · have hne : ¬ (i : Int) = j := by omega
    by_cases hgt : j < i
    · obtain ⟨d, hd⟩ : ∃ d, d + j = i := ⟨i - j, by omega⟩
      have w4 : IntKind.i64.wrap ((i : Int) - j) = (d : Int) := by rw [wrap_i64 (by omega) (by omega)]; omega
      have hX1 : X' = X'.take j ++ X'.drop j := (List.take_append_drop j X').symm
      have ks := S_swapRQ (H.set r (.row n 1 (avs rwAQ (P' ++ X' ++ Y' ++ Q')))) r n s m j cv P' (X'.take j) (X'.drop j) Y' Q' (by simpa using hn') (by omega) (by simp; omega) (by simp; omega) hY (by simpa using hr') h1k
      simp at ks
      have hc : (j : Int) < i := by omega
      have hnx : RotIQ T n m d j (P' ++ (Y' ++ (X'.drop j ++ (X'.take j ++ Q')))) := ⟨P' ++ Y', X'.drop j, X'.take j, Q', by simp; omega, by simp; omega, by simp; omega, by simp; omega, by rw [← hT']; simp [td_appQ], by simp⟩
      simp [h0, h2, h4, h10, h11, w3, hne, hc]
      refine TS.pt ks ?_
      simp [h0, h2, h4, h10, h11, w3, hne, hc, w4]
      exact ⟨d + j, by omega, d, rfl, j, rfl, rfl, by omega, hj, _, hnx, rfl⟩
    · obtain ⟨d, hd⟩ : ∃ d, d + i = j := ⟨j - i, by omega⟩
      obtain ⟨g, hg⟩ : ∃ g, g = m + d := ⟨_, rfl⟩
      obtain ⟨u, hu⟩ : ∃ u, u = m + j := ⟨_, rfl⟩
      have w4 : IntKind.i64.wrap ((j : Int) - i) = (d : Int) := by rw [wrap_i64 (by omega) (by omega)]; omega
      have w5 : IntKind.i64.wrap ((m : Int) + j) = (u : Int) := by rw [wrap_i64 (by omega) (by omega)]; omega
      have w6 : IntKind.i64.wrap ((u : Int) - i) = (g : Int) := by rw [wrap_i64 (by omega) (by omega)]; omega
      have hY1 : Y' = Y'.take d ++ Y'.drop d := (List.take_append_drop d Y').symm
      have e1 : P' ++ X' ++ Y' ++ Q' = P' ++ X' ++ Y'.take d ++ Y'.drop d ++ Q' := by simp [td_appQ]
      have ks := S_swapRQ (H.set r (.row n 1 (avs rwAQ (P' ++ X' ++ Y' ++ Q')))) r n s g i cv P' X' (Y'.take d) (Y'.drop d) Q' (by rw [← e1]; exact hn') (by omega) (by simp; omega) hX (by simp; omega) (by rw [← e1]; exact hr') h1k
      simp at ks
      have hc : ¬ (j : Int) < i := by omega
      have hnx : RotIQ T n m i d (P' ++ (Y'.drop d ++ (Y'.take d ++ (X' ++ Q')))) := ⟨P', Y'.drop d, Y'.take d, X' ++ Q', by simp; omega, by simp; omega, hP, by simp; omega, by rw [← hT']; simp [td_appQ], by simp⟩
      simp [h0, h2, h4, h10, h11, w3, hne, hc, w5, w6]
      refine TS.pt ks ?_
      simp [h0, h2, h4, h10, h11, w3, hne, hc, w4, w5, w6]
      exact ⟨i + d, by omega, i, rfl, d, rfl, rfl, hi, by omega, _, hnx, rfl⟩
structure Cmp3Q (cf : FuncId) (ps : List Int) (c : Int → Int → Int) (le bf : Int → Int → Prop) (ok : Int → Prop) : Prop where
  cmp : ∀ x y, ok x → ok y → T Tryz.prog cf [rwAQ x, rwAQ y, capA ps] (.int .i64 (c x y))
  trans : ∀ x y z, le x y → le y z → le x z
  total : ∀ x y, ¬ le x y → le y x
  link : ∀ x y, bf x y → (c y x < 0 ↔ ¬ le x y)
def symKQ (H : List HO) (r n : Nat) (le : Int → Int → Prop) (P X Y Q : List Int) (x : AV) (H' : List HO) : Prop := x = .tup [] ∧ ∃ Z : List Int, Z.Perm (X ++ Y) ∧ Z.Pairwise le ∧ H' = H.set r (.row n 1 (avs rwAQ (P ++ Z ++ Q)))
theorem half_wrapQ {p h : Nat} (hp : p < 4611686018427387904) (hh : h = p / 2) : IntKind.i64.wrap ((IntKind.u64.wrap (p : Int)).fdiv 2) = (h : Int) := by
  have e : IntKind.u64.wrap (p : Int) = (p : Int) := by exact wrap_u64 (by omega) (by omega)
  rw [e, show (p : Int).fdiv 2 = (h : Int) by rw [Int.fdiv_eq_ediv_of_nonneg _ (by omega)]; omega]
  exact wrap_i64 (by omega) (by omega)
def cutIQ (le : Int → Int → Prop) (x : Int) (Y : List Int) (m i j : Nat) : Prop := m ≤ i ∧ i ≤ j ∧ j ≤ m + Y.length ∧ (∀ q (h : q < Y.length), m + q < i → ¬ le x Y[q]) ∧ (∀ q (h : q < Y.length), j ≤ m + q → le x Y[q])
theorem S_sym1Q {cf : FuncId} {ps : List Int} {c : Int → Int → Int} {le bf : Int → Int → Prop} {ok : Int → Prop} (hC : Cmp3Q cf ps c le bf ok) (H : List HO) (r n : Nat) (P : List Int) (x : Int) (Y Q : List Int) (a m b : Nat) (hn : (P ++ [x] ++ Y ++ Q).length = n) (ha : P.length = a) (hm : P.length + 1 = m) (hb : P.length + 1 + Y.length = b) (hr : H[r]? = some (.row n 1 (avs rwAQ (P ++ [x] ++ Y ++ Q)))) (h1k : n ≤ 1000)
    (hok : ∀ z, z ∈ x :: Y → ok z) (hbf : ∀ y, y ∈ Y → bf x y) (hY : Y.Pairwise le) :
    TS Tryz.prog 158 [.mv r n 1 0 n, .int .i64 a, .int .i64 m, .int .i64 b, .fn (.func cf) [] [capA ps]] H (symKQ H r n le P [x] Y Q) := by
  have hrl := (List.getElem?_eq_some_iff.1 hr).1
  have hl : P.length + 1 + Y.length + Q.length = n := by rw [← hn]; simp; omega
  have w0 : IntKind.i64.wrap ((m : Int) - a) = 1 := by rw [wrap_i64 (by omega) (by omega)]; omega
  refine TS.body mix Tryz.func158 (by kernel_rfl) rfl (by kernel_rfl) (by simp) ?_
  simp [w0]
  obtain ⟨L, hL⟩ : ∃ L, L = P ++ [x] ++ Y ++ Q := ⟨_, rfl⟩
  have hLl : L.length = n := by rw [hL]; exact hn
  have hLx : ∀ k, L[a]'k = x := fun k => by
    have : L[a]? = some x := by rw [hL, ← ha]; simp
    rw [List.getElem?_eq_getElem k] at this; exact Option.some.inj this
  have hLy : ∀ q (h : q < Y.length) k, L[m + q]'k = Y[q] := fun q h k => by
    have : L[m + q]? = some Y[q] := by
      rw [hL, List.append_assoc, List.getElem?_append_right (by simp; omega)]
      simp
      rw [List.getElem?_append_left (by omega), show m + q - (P.length + 1) = q by omega, List.getElem?_eq_getElem h]
    rw [List.getElem?_eq_getElem k] at this; exact Option.some.inj this
  have hYs : ∀ q q', q < q' → ∀ (h : q < Y.length) (h' : q' < Y.length), le Y[q] Y[q'] := fun q q' hq h h' => List.pairwise_iff_getElem.1 hY q q' h h' hq
  rw [← hL] at hr
  refine vc_loop (fun k : Nat => k) (fun k e H' => ∃ (i j : Nat), e 0 = .mv r n 1 0 n ∧ e 1 = .int .i64 a ∧ e 4 = .fn (.func cf) [] [capA ps] ∧ e 10 = .int .i64 i ∧ e 11 = .int .i64 j ∧ k = j - i ∧ cutIQ le x Y m i j ∧ H' = H) Y.length ?_ ?_
  · exact ⟨m, b, by simp, by simp, by simp, by simp, by simp, by omega, ⟨by omega, by omega, by omega, fun q h1 h2 => by omega, fun q h1 h2 => by omega⟩, rfl⟩
  rintro k e H' ⟨i, j, h0, h1, h4, h10, h11, rfl, ⟨hmi, hij, hj, hlo, hhi⟩, rfl⟩
  by_cases hlt : i < j
  · obtain ⟨p, hp⟩ : ∃ p, p = i + j := ⟨_, rfl⟩
    have w1 : IntKind.i64.wrap ((i : Int) + j) = (p : Int) := by rw [wrap_i64 (by omega) (by omega)]; omega
    obtain ⟨h, hh⟩ : ∃ h, h = p / 2 := ⟨_, rfl⟩
    have w2 := half_wrapQ (p := p) (h := h) (by omega) hh
    obtain ⟨q, hq⟩ : ∃ q, h = m + q := ⟨h - m, by omega⟩
    have hqY : q < Y.length := by omega
    have b1 : h < n := by omega
    have b2 : a < n := by omega
    have g2 : ∀ k, L[h]'k = Y[q] := fun k => by subst hq; exact hLy q hqY k
    have kc := hC.cmp Y[q] x (hok _ (List.mem_cons_of_mem _ (List.getElem_mem hqY))) (hok _ List.mem_cons_self)
    have hlk := hC.link x Y[q] (hbf _ (List.getElem_mem hqY))
    have w3 : IntKind.i64.wrap ((h : Int) + 1) = ((h + 1 : Nat) : Int) := by rw [wrap_i64 (by omega) (by omega)]; omega
    simp [h0, h1, h4, h10, h11, hlt, w1, w2, hr, hLl, hLx, g2, b1, b2]
    refine TDK.callW kc (Dws.self (by simp)) ?_
    by_cases hcc : c Y[q] x < 0
    · have hle := hlk.1 hcc
      simp [h0, h1, h4, h10, h11, hlt, w1, w2, hr, hLl, hLx, g2, b1, b2, hcc]
      refine ⟨j - (h + 1), by omega, h + 1, w3, j, rfl, rfl, by omega, by omega, hj, fun t ht hth h2 => ?_, hhi⟩
      by_cases htq : t = q
      · subst htq; exact hle h2
      · exact hle (hC.trans _ _ _ h2 (hYs t q (by omega) ht hqY))
    · have hle : le x Y[q] := Classical.byContradiction fun h2 => hcc (hlk.2 h2)
      simp [h0, h1, h4, h10, h11, hlt, w1, w2, hr, hLl, hLx, g2, b1, b2, hcc]
      refine ⟨h - i, by omega, i, rfl, h, rfl, rfl, by omega, by omega, by omega, hlo, fun t ht hth => ?_⟩
      by_cases htq : t = q
      · subst htq; exact hle
      · exact hC.trans _ _ _ hle (hYs q t (by omega) hqY ht)
  · have : i = j := by omega
    subst this
    obtain ⟨t, ht⟩ : ∃ t, i = m + t := ⟨i - m, by omega⟩
    have htY : t ≤ Y.length := by omega
    obtain ⟨u, hu⟩ : ∃ u, u = a + t := ⟨_, rfl⟩
    have w4 : IntKind.i64.wrap ((i : Int) - 1) = (u : Int) := by rw [wrap_i64 (by omega) (by omega)]; omega
    have hfin : symKQ H' r n le P [x] Y Q (.tup []) (H'.set r (.row n 1 (avs rwAQ (P ++ (Y.take t ++ x :: Y.drop t) ++ Q)))) := by
      refine ⟨rfl, Y.take t ++ x :: Y.drop t, ?_, ?_, rfl⟩
      · refine List.Perm.trans List.perm_middle ?_
        rw [List.take_append_drop]
        exact List.Perm.refl _
      · have hsp : (Y.take t ++ Y.drop t).Pairwise le := by rw [List.take_append_drop]; exact hY
        rw [List.pairwise_append] at hsp ⊢
        refine ⟨hsp.1, List.pairwise_cons.2 ⟨fun y hy => ?_, hsp.2.1⟩, fun y hy z hz => ?_⟩
        · obtain ⟨q, hq, rfl⟩ := List.mem_drop_iff_getElem.1 hy
          exact hhi _ _ (by omega)
        · rw [List.mem_cons] at hz
          rcases hz with rfl | hz
          · obtain ⟨q, hq, rfl⟩ := List.mem_take_iff_getElem.1 hy
            exact hC.total _ _ (hlo q (by omega) (by omega))
          · exact hsp.2.2 y hy z hz
    have hsame : H'.set r (.row n 1 (avs rwAQ (P ++ (Y.take 0 ++ x :: Y.drop 0) ++ Q))) = H' := by
      have : H'[r] = .row n 1 (avs rwAQ L) := by rw [List.getElem?_eq_getElem hrl] at hr; exact Option.some.inj hr
      have e2 : P ++ (Y.take 0 ++ x :: Y.drop 0) ++ Q = L := by rw [hL]; simp
      rw [e2, ← this, List.set_getElem_self]
    simp [h0, h1, h4, h10, h11]
    refine vc_loop (fun k : Nat => t - k) (fun s e H2 => e 0 = .mv r n 1 0 n ∧ e 10 = .int .i64 i ∧ e 13 = .int .i64 (a + s : Nat) ∧ s ≤ t ∧ H2 = H'.set r (.row n 1 (avs rwAQ (P ++ (Y.take s ++ x :: Y.drop s) ++ Q)))) 0 ?_ ?_
    · exact ⟨by simp [h0], by simp [h10], by simp, by omega, hsame.symm⟩
    clear h0 h1 h4 h10 h11 e
    rintro s e H2 ⟨h0, h10, h13, hs, rfl⟩
    obtain ⟨p, hp⟩ : ∃ p, p = a + s := ⟨_, rfl⟩
    rw [← hp] at h13
    by_cases hst : s < t
    · have hsY : s < Y.length := by omega
      obtain ⟨y, hy⟩ : ∃ y, Y[s] = y := ⟨_, rfl⟩
      obtain ⟨q, hq⟩ : ∃ q, q = p + 1 := ⟨_, rfl⟩
      have w5 : IntKind.i64.wrap ((p : Int) + 1) = (q : Int) := by rw [wrap_i64 (by omega) (by omega)]; omega
      have hsh : P ++ (Y.take s ++ x :: Y.drop s) ++ Q = (P ++ Y.take s) ++ x :: ([] ++ y :: (Y.drop (s + 1) ++ Q)) := by
        rw [List.drop_eq_getElem_cons hsY, hy]; simp
      have hA : (P ++ Y.take s).length = p := by simp; omega
      have hB : (P ++ Y.take s).length + 1 + ([] : List Int).length = q := by rw [hA]; simp; omega
      have hsw := swap_twoQ (P ++ Y.take s) [] (Y.drop (s + 1) ++ Q) x y
      rw [hB, hA, ← hsh] at hsw
      have hnx : P ++ (Y.take (s + 1) ++ x :: Y.drop (s + 1)) ++ Q = (P ++ Y.take s) ++ y :: ([] ++ x :: (Y.drop (s + 1) ++ Q)) := by
        rw [take_next hsY, hy]; simp
      rw [← hnx] at hsw
      have g1 : ∀ k, (P ++ (Y.take s ++ x :: Y.drop s) ++ Q)[p]'k = x := fun k => by
        have : (P ++ (Y.take s ++ x :: Y.drop s) ++ Q)[p]? = some x := by rw [hsh, ← hA]; simp
        rw [List.getElem?_eq_getElem k] at this; exact Option.some.inj this
      have g2 : ∀ k, (P ++ (Y.take s ++ x :: Y.drop s) ++ Q)[q]'k = y := fun k => by
        have : (P ++ (Y.take s ++ x :: Y.drop s) ++ Q)[q]? = some y := by rw [hsh, ← hB, List.getElem?_append_right (by omega), show (P ++ Y.take s).length + 1 + ([] : List Int).length - (P ++ Y.take s).length = 1 by simp]; simp
        rw [List.getElem?_eq_getElem k] at this; exact Option.some.inj this
      have hll : (P ++ (Y.take s ++ x :: Y.drop s) ++ Q).length = n := by simp; omega
      generalize P ++ (Y.take s ++ x :: Y.drop s) ++ Q = K at *
      have b1 : p < n := by omega
      have b2 : q < n := by omega
      have hc : p < u := by omega
      simp [h0, h10, h13, w4, w5, hc, hll, g1, g2, b1, b2, hrl]
      refine ⟨by omega, by omega, s + 1, by omega, by omega, by omega, ?_⟩
      rw [setIQ (show p < K.length by omega), setIQ (show q < (K.set p y).length by rw [List.length_set]; omega), hsw]
      simp
    · have : s = t := by omega
      subst this
      have hc : ¬ p < u := by omega
      simp [h0, h10, h13, w4, hc]
      simpa using hfin
def cutJQ (le : Int → Int → Prop) (y : Int) (X : List Int) (a i j : Nat) : Prop := a ≤ i ∧ i ≤ j ∧ j ≤ a + X.length ∧ (∀ q (h : q < X.length), a + q < i → le X[q] y) ∧ (∀ q (h : q < X.length), j ≤ a + q → ¬ le X[q] y)
theorem S_sym2Q {cf : FuncId} {ps : List Int} {c : Int → Int → Int} {le bf : Int → Int → Prop} {ok : Int → Prop} (hC : Cmp3Q cf ps c le bf ok) (H : List HO) (r n : Nat) (P X : List Int) (y : Int) (Q : List Int) (a m b : Nat) (hn : (P ++ X ++ [y] ++ Q).length = n) (ha : P.length = a) (hm : P.length + X.length = m) (hb : m + 1 = b) (hX2 : 2 ≤ X.length) (hr : H[r]? = some (.row n 1 (avs rwAQ (P ++ X ++ [y] ++ Q)))) (h1k : n ≤ 1000)
    (hok : ∀ z, z ∈ X ++ [y] → ok z) (hbf : ∀ x, x ∈ X → bf x y) (hX : X.Pairwise le) :
    TS Tryz.prog 158 [.mv r n 1 0 n, .int .i64 a, .int .i64 m, .int .i64 b, .fn (.func cf) [] [capA ps]] H (symKQ H r n le P X [y] Q) := by
  have hrl := (List.getElem?_eq_some_iff.1 hr).1
  have hl : P.length + X.length + 1 + Q.length = n := by rw [← hn]; simp; omega
  obtain ⟨d, hd⟩ : ∃ d, d = X.length := ⟨_, rfl⟩
  have w0 : IntKind.i64.wrap ((m : Int) - a) = (d : Int) := by rw [wrap_i64 (by omega) (by omega)]; omega
  have w0b : IntKind.i64.wrap ((b : Int) - m) = 1 := by rw [wrap_i64 (by omega) (by omega)]; omega
  have hd1 : ¬ (d : Int) = 1 := by omega
  refine TS.body mix Tryz.func158 (by kernel_rfl) rfl (by kernel_rfl) (by simp) ?_
  simp [w0, w0b, hd1]
  obtain ⟨L, hL⟩ : ∃ L, L = P ++ X ++ [y] ++ Q := ⟨_, rfl⟩
  have hLl : L.length = n := by rw [hL]; exact hn
  have hLy : ∀ k, L[m]'k = y := fun k => by
    have : L[m]? = some y := by rw [hL, ← hm]; simp
    rw [List.getElem?_eq_getElem k] at this; exact Option.some.inj this
  have hLx : ∀ q (h : q < X.length) k, L[a + q]'k = X[q] := fun q h k => by
    have : L[a + q]? = some X[q] := by
      rw [hL, List.append_assoc, List.append_assoc, List.getElem?_append_right (by omega), show a + q - P.length = q by omega, List.getElem?_append_left h, List.getElem?_eq_getElem h]
    rw [List.getElem?_eq_getElem k] at this; exact Option.some.inj this
  have hXs : ∀ q q', q < q' → ∀ (h : q < X.length) (h' : q' < X.length), le X[q] X[q'] := fun q q' hq h h' => List.pairwise_iff_getElem.1 hX q q' h h' hq
  rw [← hL] at hr
  refine vc_loop (fun k : Nat => k) (fun k e H' => ∃ (i j : Nat), e 0 = .mv r n 1 0 n ∧ e 2 = .int .i64 m ∧ e 4 = .fn (.func cf) [] [capA ps] ∧ e 14 = .int .i64 i ∧ e 15 = .int .i64 j ∧ k = j - i ∧ cutJQ le y X a i j ∧ H' = H) X.length ?_ ?_
  · exact ⟨a, m, by simp, by simp, by simp, by simp, by simp, by omega, ⟨by omega, by omega, by omega, fun q h1 h2 => by omega, fun q h1 h2 => by omega⟩, rfl⟩
  rintro k e H' ⟨i, j, h0, h2, h4, h14, h15, rfl, ⟨hai, hij, hj, hlo, hhi⟩, rfl⟩
  by_cases hlt : i < j
  · obtain ⟨p, hp⟩ : ∃ p, p = i + j := ⟨_, rfl⟩
    have w1 : IntKind.i64.wrap ((i : Int) + j) = (p : Int) := by rw [wrap_i64 (by omega) (by omega)]; omega
    obtain ⟨h, hh⟩ : ∃ h, h = p / 2 := ⟨_, rfl⟩
    have w2 := half_wrapQ (p := p) (h := h) (by omega) hh
    obtain ⟨q, hq⟩ : ∃ q, h = a + q := ⟨h - a, by omega⟩
    have hqX : q < X.length := by omega
    have b1 : h < n := by omega
    have b2 : m < n := by omega
    have g2 : ∀ k, L[h]'k = X[q] := fun k => by subst hq; exact hLx q hqX k
    have kc := hC.cmp y X[q] (hok _ (by simp)) (hok _ (List.mem_append_left _ (List.getElem_mem hqX)))
    have hlk := hC.link X[q] y (hbf _ (List.getElem_mem hqX))
    have w3 : IntKind.i64.wrap ((h : Int) + 1) = ((h + 1 : Nat) : Int) := by rw [wrap_i64 (by omega) (by omega)]; omega
    simp [h0, h2, h4, h14, h15, hlt, w1, w2, hr, hLl, hLy, g2, b1, b2]
    refine TDK.callW kc (Dws.self (by simp)) ?_
    by_cases hcc : c y X[q] < 0
    · have hle := hlk.1 hcc
      simp [h0, h2, h4, h14, h15, hlt, w1, w2, hr, hLl, hLy, g2, b1, b2, hcc]
      refine ⟨h - i, by omega, i, rfl, h, rfl, rfl, by omega, by omega, by omega, hlo, fun t ht hth h3 => ?_⟩
      by_cases htq : t = q
      · subst htq; exact hle h3
      · exact hle (hC.trans _ _ _ (hXs q t (by omega) hqX ht) h3)
    · have hle : le X[q] y := Classical.byContradiction fun h2 => hcc (hlk.2 h2)
      have hcc' : 0 ≤ c y X[q] := by omega
      simp [h0, h2, h4, h14, h15, hlt, w1, w2, hr, hLl, hLy, g2, b1, b2, hcc, hcc']
      refine ⟨j - (h + 1), by omega, h + 1, w3, j, rfl, rfl, by omega, by omega, hj, fun t ht hth => ?_, hhi⟩
      by_cases htq : t = q
      · subst htq; exact hle
      · exact hC.trans _ _ _ (hXs t q (by omega) ht hqX) hle
  · have : i = j := by omega
    subst this
    obtain ⟨t, ht⟩ : ∃ t, i = a + t := ⟨i - a, by omega⟩
    have htX : t ≤ X.length := by omega
    have hfin : symKQ H' r n le P X [y] Q (.tup []) (H'.set r (.row n 1 (avs rwAQ (P ++ (X.take t ++ y :: X.drop t) ++ Q)))) := by
      refine ⟨rfl, X.take t ++ y :: X.drop t, ?_, ?_, rfl⟩
      · refine List.Perm.trans List.perm_middle ?_
        rw [List.take_append_drop]
        exact (List.perm_append_comm (l₁ := X) (l₂ := [y])).symm
      · have hsp : (X.take t ++ X.drop t).Pairwise le := by rw [List.take_append_drop]; exact hX
        rw [List.pairwise_append] at hsp ⊢
        refine ⟨hsp.1, List.pairwise_cons.2 ⟨fun z hz => ?_, hsp.2.1⟩, fun z hz w hw => ?_⟩
        · obtain ⟨q, hq, rfl⟩ := List.mem_drop_iff_getElem.1 hz
          exact hC.total _ _ (hhi _ _ (by omega))
        · rw [List.mem_cons] at hw
          rcases hw with rfl | hw
          · obtain ⟨q, hq, rfl⟩ := List.mem_take_iff_getElem.1 hz
            exact hlo q (by omega) (by omega)
          · exact hsp.2.2 z hz w hw
    have hsame : H'.set r (.row n 1 (avs rwAQ (P ++ (X.take X.length ++ y :: X.drop X.length) ++ Q))) = H' := by
      have : H'[r] = .row n 1 (avs rwAQ L) := by rw [List.getElem?_eq_getElem hrl] at hr; exact Option.some.inj hr
      have e2 : P ++ (X.take X.length ++ y :: X.drop X.length) ++ Q = L := by rw [hL]; simp
      rw [e2, ← this, List.set_getElem_self]
    simp [h0, h2, h4, h14, h15]
    refine vc_loop (fun k : Nat => k) (fun s e H2 => e 0 = .mv r n 1 0 n ∧ e 14 = .int .i64 i ∧ e 17 = .int .i64 (a + s : Nat) ∧ t ≤ s ∧ s ≤ X.length ∧ H2 = H'.set r (.row n 1 (avs rwAQ (P ++ (X.take s ++ y :: X.drop s) ++ Q)))) X.length ?_ ?_
    · exact ⟨by simp [h0], by simp [h14], by simp; omega, by omega, by omega, hsame.symm⟩
    clear h0 h2 h4 h14 h15 e
    rintro s e H2 ⟨h0, h14, h17, hs, hsX, rfl⟩
    obtain ⟨p, hp⟩ : ∃ p, p = a + s := ⟨_, rfl⟩
    rw [← hp] at h17
    by_cases hst : t < s
    · obtain ⟨s1, hs1⟩ : ∃ s1, s = s1 + 1 := ⟨s - 1, by omega⟩
      subst hs1
      have hsX1 : s1 < X.length := by omega
      obtain ⟨x, hx⟩ : ∃ x, X[s1] = x := ⟨_, rfl⟩
      obtain ⟨q, hq⟩ : ∃ q, p = q + 1 := ⟨p - 1, by omega⟩
      have w5 : IntKind.i64.wrap ((p : Int) - 1) = (q : Int) := by rw [wrap_i64 (by omega) (by omega)]; omega
      have hsh : P ++ (X.take (s1 + 1) ++ y :: X.drop (s1 + 1)) ++ Q = (P ++ X.take s1) ++ x :: ([] ++ y :: (X.drop (s1 + 1) ++ Q)) := by
        rw [take_next hsX1, hx]; simp
      have hA : (P ++ X.take s1).length = q := by simp; omega
      have hB : (P ++ X.take s1).length + 1 + ([] : List Int).length = p := by rw [hA]; simp; omega
      have hsw := swap_twoQ (P ++ X.take s1) [] (X.drop (s1 + 1) ++ Q) x y
      rw [hB, hA, ← hsh] at hsw
      have hnx : P ++ (X.take s1 ++ y :: X.drop s1) ++ Q = (P ++ X.take s1) ++ y :: ([] ++ x :: (X.drop (s1 + 1) ++ Q)) := by
        rw [List.drop_eq_getElem_cons hsX1, hx]; simp
      rw [← hnx] at hsw
      have g1 : ∀ k, (P ++ (X.take (s1 + 1) ++ y :: X.drop (s1 + 1)) ++ Q)[q]'k = x := fun k => by
        have : (P ++ (X.take (s1 + 1) ++ y :: X.drop (s1 + 1)) ++ Q)[q]? = some x := by rw [hsh, ← hA]; simp
        rw [List.getElem?_eq_getElem k] at this; exact Option.some.inj this
      have g2 : ∀ k, (P ++ (X.take (s1 + 1) ++ y :: X.drop (s1 + 1)) ++ Q)[p]'k = y := fun k => by
        have : (P ++ (X.take (s1 + 1) ++ y :: X.drop (s1 + 1)) ++ Q)[p]? = some y := by rw [hsh, ← hB, List.getElem?_append_right (by omega), show (P ++ X.take s1).length + 1 + ([] : List Int).length - (P ++ X.take s1).length = 1 by simp]; simp
        rw [List.getElem?_eq_getElem k] at this; exact Option.some.inj this
      have hll : (P ++ (X.take (s1 + 1) ++ y :: X.drop (s1 + 1)) ++ Q).length = n := by simp; omega
      generalize P ++ (X.take (s1 + 1) ++ y :: X.drop (s1 + 1)) ++ Q = K at *
      have b1 : p < n := by omega
      have b2 : q < n := by omega
      have hc : i < p := by omega
      simp [h0, h14, h17, w5, hc, hll, g1, g2, b1, b2, hrl]
      refine ⟨by omega, by omega, s1, by omega, by omega, by omega, by omega, ?_⟩
      rw [setIQ (show p < K.length by omega), setIQ (show q < (K.set p x).length by rw [List.length_set]; omega), List.set_comm _ _ (by omega), hsw]
      simp
    · have : s = t := by omega
      subst this
      have hc : ¬ i < p := by omega
      simp [h0, h14, h17, hc]
      simpa using hfin
end Go.Proofs.YtjplcdeaedflpaaGreatDoor.PL
namespace Go.Proofs.YtjplcdeaedflpaaGreatDoor.PL
open Go.Proofs
set_option linter.unusedVariables false
set_option linter.unusedSimpArgs false
/-- where the search for the cut stands -/
def cutSQ (le : Int → Int → Prop) (X Y : List Int) (a m n lo hi i j : Nat) : Prop :=
  lo ≤ i ∧ i ≤ j ∧ j ≤ hi ∧ (i = lo ∨ ∀ q t (hq : q < X.length) (ht : t < Y.length), a + q + 1 = i → m + t + i = n → le X[q] Y[t]) ∧ (j = hi ∨ ∀ q t (hq : q < X.length) (ht : t < Y.length), a + q = j → m + t + j + 1 = n → ¬ le X[q] Y[t])
/-- the cut, and what it tells -/
theorem cut_partsQ {le bf : Int → Int → Prop} {cf : FuncId} {ps : List Int} {c : Int → Int → Int} {ok : Int → Prop} (hC : Cmp3Q cf ps c le bf ok) {X Y : List Int} {a m b n mid lo hi s : Nat} (hm : a + X.length = m) (hb : m + Y.length = b) (hX0 : 0 < X.length) (hY0 : 0 < Y.length) (hmid : mid = (a + b) / 2) (hn : n = mid + m)
    (hlo : lo = if mid < m then n - b else a) (hhi : hi = if mid < m then mid else m) (hX : X.Pairwise le) (hY : Y.Pairwise le) (h : cutSQ le X Y a m n lo hi s s) :
    a ≤ s ∧ s ≤ m ∧ m ≤ n - s ∧ n - s ≤ b ∧ (∀ x, x ∈ X.take (s - a) → ∀ y, y ∈ Y.drop (n - s - m) → le x y) ∧ (∀ y, y ∈ Y.take (n - s - m) → ∀ x, x ∈ X.drop (s - a) → le y x) := by
  obtain ⟨h1, h2, h3, h4, h5⟩ := h
  have hXs : ∀ q q', q < q' → ∀ (h : q < X.length) (h' : q' < X.length), le X[q] X[q'] := fun q q' hq h h' => List.pairwise_iff_getElem.1 hX q q' h h' hq
  have hYs : ∀ q q', q < q' → ∀ (h : q < Y.length) (h' : q' < Y.length), le Y[q] Y[q'] := fun q q' hq h h' => List.pairwise_iff_getElem.1 hY q q' h h' hq
  have hb1 : a ≤ s ∧ s ≤ m ∧ m ≤ n - s ∧ n - s ≤ b := by
    split at hlo <;> rename_i hc <;> simp only [hc, if_true, if_false] at hhi <;> omega
  refine ⟨hb1.1, hb1.2.1, hb1.2.2.1, hb1.2.2.2, fun x hx y hy => ?_, fun y hy x hx => ?_⟩
  · obtain ⟨q, hq, rfl⟩ := List.mem_take_iff_getElem.1 hx
    obtain ⟨t, ht, rfl⟩ := List.mem_drop_iff_getElem.1 hy
    rcases h4 with e | h4
    · exfalso
      split at hlo <;> omega
    · have k1 : s - a - 1 < X.length := by omega
      have k2 : n - s - m < Y.length := by omega
      have k3 := h4 (s - a - 1) (n - s - m) k1 k2 (by omega) (by omega)
      have k4 : le X[q] Y[n - s - m] := by
        by_cases e : q = s - a - 1
        · subst e; exact k3
        · exact hC.trans _ _ _ (hXs q (s - a - 1) (by omega) (by omega) k1) k3
      by_cases e : t = 0
      · subst e; exact k4
      · exact hC.trans _ _ _ k4 (hYs (n - s - m) (n - s - m + t) (by omega) k2 (by omega))
  · obtain ⟨t, ht, rfl⟩ := List.mem_take_iff_getElem.1 hy
    obtain ⟨q, hq, rfl⟩ := List.mem_drop_iff_getElem.1 hx
    rcases h5 with e | h5
    · exfalso
      split at hhi <;> omega
    · have k1 : s - a < X.length := by omega
      have k2 : n - s - m - 1 < Y.length := by omega
      have k3 := hC.total _ _ (h5 (s - a) (n - s - m - 1) k1 k2 (by omega) (by omega))
      have k4 : le Y[t] X[s - a] := by
        by_cases e : t = n - s - m - 1
        · subst e; exact k3
        · exact hC.trans _ _ _ (hYs t (n - s - m - 1) (by omega) (by omega) k2) k3
      by_cases e : q = 0
      · subst e; exact k4
      · exact hC.trans _ _ _ k4 (hXs (s - a) (s - a + q) (by omega) k1 (by omega))
theorem sym_finQ {le : Int → Int → Prop} {X Y X1 X2 Y1 Y2 Z1 Z2 P Q : List Int} {H : List HO} {r n : Nat} (hXe : X = X1 ++ X2) (hYe : Y = Y1 ++ Y2) (hX : X.Pairwise le) (hY : Y.Pairwise le) (c1 : ∀ x, x ∈ X1 → ∀ y, y ∈ Y2 → le x y) (c2 : ∀ y, y ∈ Y1 → ∀ x, x ∈ X2 → le y x)
    (p1 : Z1.Perm (X1 ++ Y1)) (s1 : Z1.Pairwise le) (p2 : Z2.Perm (X2 ++ Y2)) (s2 : Z2.Pairwise le) : symKQ H r n le P X Y Q (.tup []) (H.set r (.row n 1 (avs rwAQ (P ++ Z1 ++ Z2 ++ Q)))) := by
  subst hXe; subst hYe
  rw [List.pairwise_append] at hX hY
  refine ⟨rfl, Z1 ++ Z2, ?_, ?_, by simp⟩
  · refine (p1.append p2).trans ?_
    have h1 : (X1 ++ Y1 ++ (X2 ++ Y2)).Perm (X1 ++ (X2 ++ Y1) ++ Y2) := by
      have : X1 ++ Y1 ++ (X2 ++ Y2) = X1 ++ (Y1 ++ X2) ++ Y2 := by simp
      rw [this]
      exact ((List.perm_append_comm (l₁ := Y1) (l₂ := X2)).append_left X1).append_right Y2
    have h2 : X1 ++ (X2 ++ Y1) ++ Y2 = X1 ++ X2 ++ (Y1 ++ Y2) := by simp
    rw [h2] at h1
    exact h1
  · rw [List.pairwise_append]
    refine ⟨s1, s2, fun z hz w hw => ?_⟩
    have hz' := p1.mem_iff.1 hz
    have hw' := p2.mem_iff.1 hw
    rw [List.mem_append] at hz' hw'
    rcases hz' with hz' | hz' <;> rcases hw' with hw' | hw'
    · exact hX.2.2 z hz' w hw'
    · exact c1 z hz' w hw'
    · exact c2 z hz' w hw'
    · exact hY.2.2 z hz' w hw'
theorem nz_ofQ {a x i : Nat} (h : a + x = i) (h2 : a < i) : 0 < x := by omega
theorem nil_atQ {α : Type} {l : List α} {a i : Nat} (h : a + l.length = i) (h2 : i ≤ a) : l = [] := List.eq_nil_of_length_eq_zero (by omega)
theorem sym_numsQ {a b m mid nn i en k x1 x2 y1 y2 : Nat} (hmid : mid = (a + b) / 2) (hnn : nn = mid + m) (hen : en = nn - i) (l1 : a + x1 = i) (l2 : i + x2 = m) (l3 : m + y1 = en) (l4 : en + y2 = b) (hk : b ≤ a + (k + 1)) (ha : a + 2 ≤ b) : x1 + y1 ≤ k ∧ x2 + y2 ≤ k ∧ i + y1 = mid ∧ mid + x2 = en ∧ a + (x1 + y1) = mid := by
  have h1 : i + en = nn := by omega
  have h2 : i + y1 = mid := by omega
  refine ⟨by omega, by omega, h2, by omega, by omega⟩
def SymIHQ (cf : FuncId) (ps : List Int) (le bf : Int → Int → Prop) (ok : Int → Prop) (r n k : Nat) : Prop := ∀ (H : List HO) (P X Y Q : List Int) (a m b : Nat), X.length + Y.length ≤ k → (P ++ X ++ Y ++ Q).length = n → P.length = a → P.length + X.length = m → m + Y.length = b → 0 < X.length → 0 < Y.length → H[r]? = some (.row n 1 (avs rwAQ (P ++ X ++ Y ++ Q))) →
    (∀ z, z ∈ X ++ Y → ok z) → (∀ x, x ∈ X → ∀ y, y ∈ Y → bf x y) → X.Pairwise le → Y.Pairwise le →
    TS Tryz.prog 158 [.mv r n 1 0 n, .int .i64 a, .int .i64 m, .int .i64 b, .fn (.func cf) [] [capA ps]] H (symKQ H r n le P X Y Q)
set_option maxHeartbeats 4000000 in
theorem S_symAQ {cf : FuncId} {ps : List Int} {c : Int → Int → Int} {le bf : Int → Int → Prop} {ok : Int → Prop} (hC : Cmp3Q cf ps c le bf ok) (r n : Nat) (h1k : n ≤ 1000) (k : Nat) (ih : SymIHQ cf ps le bf ok r n k) (H : List HO) (P X Y Q : List Int) (a m b : Nat) (hk : X.length + Y.length ≤ k + 1) (hn : (P ++ X ++ Y ++ Q).length = n) (ha : P.length = a) (hm : P.length + X.length = m) (hb : m + Y.length = b) (hX0 : 0 < X.length) (hY0 : 0 < Y.length) (hr : H[r]? = some (.row n 1 (avs rwAQ (P ++ X ++ Y ++ Q))))
    (hok : ∀ z, z ∈ X ++ Y → ok z) (hbf : ∀ x, x ∈ X → ∀ y, y ∈ Y → bf x y) (hX : X.Pairwise le) (hY : Y.Pairwise le) (hx1 : ¬ X.length = 1) (hy1 : ¬ Y.length = 1) (hcase : (a + b) / 2 < m) :
    TS Tryz.prog 158 [.mv r n 1 0 n, .int .i64 a, .int .i64 m, .int .i64 b, .fn (.func cf) [] [capA ps]] H (symKQ H r n le P X Y Q) := by
  have hl : P.length + X.length + Y.length + Q.length = n := by rw [← hn]; simp; omega
  have hrl := (List.getElem?_eq_some_iff.1 hr).1
  obtain ⟨dx, hdx⟩ : ∃ d, d = X.length := ⟨_, rfl⟩
  obtain ⟨dy, hdy⟩ : ∃ d, d = Y.length := ⟨_, rfl⟩
  obtain ⟨mid, hmid⟩ : ∃ mid, mid = (a + b) / 2 := ⟨_, rfl⟩
  rw [← hmid] at hcase
  obtain ⟨ab, hab⟩ : ∃ ab, ab = a + b := ⟨_, rfl⟩
  obtain ⟨nn, hnn⟩ : ∃ nn, nn = mid + m := ⟨_, rfl⟩
  obtain ⟨p, hp⟩ : ∃ p, nn = p + 1 := ⟨nn - 1, by omega⟩
  obtain ⟨lo, hlo⟩ : ∃ lo, lo = if mid < m then nn - b else a := ⟨_, rfl⟩
  obtain ⟨hi, hhi⟩ : ∃ hi, hi = if mid < m then mid else m := ⟨_, rfl⟩
  have hcs : (mid < m ∧ lo + b = nn ∧ hi = mid) ∨ (¬ mid < m ∧ lo = a ∧ hi = m) := by
    by_cases hc : mid < m
    · left; rw [if_pos hc] at hlo hhi; exact ⟨hc, by omega, hhi⟩
    · right; rw [if_neg hc] at hlo hhi; exact ⟨hc, hlo, hhi⟩
  have w0 : IntKind.i64.wrap ((m : Int) - a) = (dx : Int) := by rw [wrap_i64 (by omega) (by omega)]; omega
  have w0b : IntKind.i64.wrap ((b : Int) - m) = (dy : Int) := by rw [wrap_i64 (by omega) (by omega)]; omega
  have hd1 : ¬ (dx : Int) = 1 := by omega
  have hd2 : ¬ (dy : Int) = 1 := by omega
  have w1 : IntKind.i64.wrap ((a : Int) + b) = (ab : Int) := by rw [wrap_i64 (by omega) (by omega)]; omega
  have w2 := half_wrapQ (p := ab) (h := mid) (by omega) (by omega)
  have w3 : IntKind.i64.wrap ((mid : Int) + m) = (nn : Int) := by rw [wrap_i64 (by omega) (by omega)]; omega
  have w4 : IntKind.i64.wrap ((nn : Int) - 1) = (p : Int) := by rw [wrap_i64 (by omega) (by omega)]; omega
  obtain ⟨L, hL⟩ : ∃ L, L = P ++ X ++ Y ++ Q := ⟨_, rfl⟩
  have hLl : L.length = n := by rw [hL]; exact hn
  have hLx : ∀ q (h : q < X.length) k, L[a + q]'k = X[q] := fun q h k => by
    have : L[a + q]? = some X[q] := by
      rw [hL, List.append_assoc, List.append_assoc, List.getElem?_append_right (by omega), show a + q - P.length = q by omega, List.getElem?_append_left h, List.getElem?_eq_getElem h]
    rw [List.getElem?_eq_getElem k] at this; exact Option.some.inj this
  have hLy : ∀ q (h : q < Y.length) k, L[m + q]'k = Y[q] := fun q h k => by
    have : L[m + q]? = some Y[q] := by
      rw [hL, List.append_assoc, List.getElem?_append_right (by simp; omega)]
      simp
      rw [List.getElem?_append_left (by omega), show m + q - (P.length + X.length) = q by omega, List.getElem?_eq_getElem h]
    rw [List.getElem?_eq_getElem k] at this; exact Option.some.inj this
  rw [← hL] at hr
  refine TS.body mix Tryz.func158 (by kernel_rfl) rfl (by kernel_rfl) (by simp) ?_
  simp [w0, w0b, hd1, hd2, w1, w2, w3, hcase]
  have hc : mid < m := hcase
  have w5 : IntKind.i64.wrap ((nn : Int) - b) = (lo : Int) := by rw [wrap_i64 (by omega) (by omega)]; omega
  simp [w5, w4]
  refine vc_loop (fun k : Nat => k) (fun k e H' => ∃ (i j : Nat), e 0 = .mv r n 1 0 n ∧ e 1 = .int .i64 a ∧ e 2 = .int .i64 m ∧ e 3 = .int .i64 b ∧ e 4 = .fn (.func cf) [] [capA ps] ∧ e 18 = .int .i64 mid ∧ e 19 = .int .i64 nn ∧ e 20 = .int .i64 i ∧ e 21 = .int .i64 j ∧ e 22 = .int .i64 p ∧ k = j - i ∧ cutSQ le X Y a m nn lo hi i j ∧ H' = H) (hi - lo) ?_ ?_
  · exact ⟨lo, hi, by simp, by simp, by simp, by simp, by simp, by simp, by simp, by first | (simp; done) | (simp; omega), by first | (simp; done) | (simp; omega), by simp, rfl, ⟨by omega, by omega, by omega, .inl rfl, .inl rfl⟩, rfl⟩
  rintro k e H' ⟨i, j, h0, h1, h2, h3, h4, h18, h19, h20, h21, h22, rfl, hcut, rfl⟩
  by_cases hlt : i < j
  · obtain ⟨hci, _, hcj, hc1, hc2⟩ := hcut
    obtain ⟨ij, hij⟩ : ∃ ij, ij = i + j := ⟨_, rfl⟩
    have u1 : IntKind.i64.wrap ((i : Int) + j) = (ij : Int) := by rw [wrap_i64 (by omega) (by omega)]; omega
    obtain ⟨h, hh⟩ : ∃ h, h = ij / 2 := ⟨_, rfl⟩
    have u2 := half_wrapQ (p := ij) (h := h) (by omega) hh
    obtain ⟨g, hg⟩ : ∃ g, g + h = p := ⟨p - h, by omega⟩
    have u3 : IntKind.i64.wrap ((p : Int) - h) = (g : Int) := by rw [wrap_i64 (by omega) (by omega)]; omega
    have u4 : IntKind.i64.wrap ((h : Int) + 1) = ((h + 1 : Nat) : Int) := by rw [wrap_i64 (by omega) (by omega)]; omega
    obtain ⟨q, hq⟩ : ∃ q, h = a + q := ⟨h - a, by omega⟩
    obtain ⟨t, ht⟩ : ∃ t, g = m + t := ⟨g - m, by omega⟩
    have hqX : q < X.length := by omega
    have htY : t < Y.length := by omega
    have b1 : h < n := by omega
    have b2 : g < n := by omega
    have g1 : ∀ k, L[h]'k = X[q] := fun k => by subst hq; exact hLx q hqX k
    have g2 : ∀ k, L[g]'k = Y[t] := fun k => by subst ht; exact hLy t htY k
    have kc := hC.cmp Y[t] X[q] (hok _ (List.mem_append_right _ (List.getElem_mem htY))) (hok _ (List.mem_append_left _ (List.getElem_mem hqX)))
    have hlk := hC.link X[q] Y[t] (hbf _ (List.getElem_mem hqX) _ (List.getElem_mem htY))
    simp [h0, h1, h2, h3, h4, h18, h19, h20, h21, h22, hlt, u1, u2, u3, hr, hLl, g1, g2, b1, b2]
    refine TDK.callW kc (Dws.self (by simp)) ?_
    by_cases hcc : c Y[t] X[q] < 0
    · have hle := hlk.1 hcc
      simp [h0, h1, h2, h3, h4, h18, h19, h20, h21, h22, hlt, u1, u2, u3, hr, hLl, g1, g2, b1, b2, hcc]
      refine ⟨h - i, by omega, i, rfl, h, rfl, rfl, by omega, by omega, by omega, hc1, .inr fun q' t' hq' ht' e1 e2 => ?_⟩
      obtain rfl : q' = q := by omega
      obtain rfl : t' = t := by omega
      exact hle
    · have hle : le X[q] Y[t] := Classical.byContradiction fun h2 => hcc (hlk.2 h2)
      have hcc' : 0 ≤ c Y[t] X[q] := by omega
      simp [h0, h1, h2, h3, h4, h18, h19, h20, h21, h22, hlt, u1, u2, u3, hr, hLl, g1, g2, b1, b2, hcc, hcc']
      refine ⟨j - (h + 1), by omega, h + 1, u4, j, rfl, rfl, by omega, by omega, by omega, .inr fun q' t' hq' ht' e1 e2 => ?_, hc2⟩
      obtain rfl : q' = q := by omega
      obtain rfl : t' = t := by omega
      exact hle
  · obtain rfl : i = j := by have := hcut.2.1; omega
    obtain ⟨t1, t2, t3, t4, t5, t6⟩ := cut_partsQ hC (by omega) hb (by omega) (by omega) hmid hnn hlo hhi hX hY hcut
    obtain ⟨en, hen⟩ : ∃ en, en = nn - i := ⟨_, rfl⟩
    rw [← hen] at t3 t4 t5 t6
    have u1 : IntKind.i64.wrap ((nn : Int) - i) = (en : Int) := by rw [wrap_i64 (by omega) (by omega)]; omega
    obtain ⟨X1, hX1⟩ : ∃ Z, Z = X.take (i - a) := ⟨_, rfl⟩
    obtain ⟨X2, hX2⟩ : ∃ Z, Z = X.drop (i - a) := ⟨_, rfl⟩
    obtain ⟨Y1, hY1⟩ : ∃ Z, Z = Y.take (en - m) := ⟨_, rfl⟩
    obtain ⟨Y2, hY2⟩ : ∃ Z, Z = Y.drop (en - m) := ⟨_, rfl⟩
    have hXe : X = X1 ++ X2 := by rw [hX1, hX2, List.take_append_drop]
    have hYe : Y = Y1 ++ Y2 := by rw [hY1, hY2, List.take_append_drop]
    have lX1 : a + X1.length = i := by rw [hX1, List.length_take]; omega
    have lX2 : i + X2.length = m := by rw [hX2, List.length_drop]; omega
    have lY1 : m + Y1.length = en := by rw [hY1, List.length_take]; omega
    have lY2 : en + Y2.length = b := by rw [hY2, List.length_drop]; omega
    rw [← hX1, ← hY2] at t5
    rw [← hY1, ← hX2] at t6
    have hfin : ∀ Z1 Z2 : List Int, Z1.Perm (X1 ++ Y1) → Z1.Pairwise le → Z2.Perm (X2 ++ Y2) → Z2.Pairwise le → symKQ H' r n le P X Y Q (.tup []) (H'.set r (.row n 1 (avs rwAQ (P ++ Z1 ++ Z2 ++ Q)))) := fun Z1 Z2 p1 s1 p2 s2 => sym_finQ hXe hYe hX hY t5 t6 p1 s1 p2 s2
    have hXp := hX
    have hYp := hY
    rw [hXe, List.pairwise_append] at hXp
    rw [hYe, List.pairwise_append] at hYp
    have hok1 : ∀ z, z ∈ X1 ++ Y1 → ok z := fun z hz => hok z (by rw [hXe, hYe]; rw [List.mem_append] at hz; rcases hz with hz | hz <;> simp [hz])
    have hok2 : ∀ z, z ∈ X2 ++ Y2 → ok z := fun z hz => hok z (by rw [hXe, hYe]; rw [List.mem_append] at hz; rcases hz with hz | hz <;> simp [hz])
    have hbf1 : ∀ x, x ∈ X1 → ∀ y, y ∈ Y1 → bf x y := fun x hx y hy => hbf x (by rw [hXe]; simp [hx]) y (by rw [hYe]; simp [hy])
    have hbf2 : ∀ x, x ∈ X2 → ∀ y, y ∈ Y2 → bf x y := fun x hx y hy => hbf x (by rw [hXe]; simp [hx]) y (by rw [hYe]; simp [hy])
    obtain ⟨N1, N2, N3, N4, N5⟩ := sym_numsQ (k := k) hmid hnn hen lX1 lX2 lY1 lY2 (by omega) (by omega)
    have hz1 : ((P ++ X1) ++ X2 ++ Y1 ++ (Y2 ++ Q)).length = n := by rw [← hLl, hL, hXe, hYe]; simp
    have hz2 : (P ++ X1).length = i := by rw [List.length_append, ha]; exact lX1
    have hz3 : (P ++ X1).length + X2.length = m := by rw [hz2]; exact lX2
    have hz4 : (P ++ X1).length + X2.length + Y1.length = en := by rw [hz3]; exact lY1
    have hz5 : i < m → 0 < X2.length := fun h => nz_ofQ lX2 h
    have hz6 : m < en → 0 < Y1.length := fun h => nz_ofQ lY1 h
    have hz7 : (P ++ X1 ++ Y1 ++ (X2 ++ Y2 ++ Q)).length = n := by rw [← hz1]; simp only [List.length_append]; ac_rfl
    have hz8 : P.length + X1.length = i := by rw [ha]; exact lX1
    have hz9 : a < i → 0 < X1.length := fun h => nz_ofQ lX1 h
    have hz10 : i < mid → 0 < Y1.length := fun h => nz_ofQ N3 h
    have hz11 : mid < en → 0 < X2.length := fun h => nz_ofQ N4 h
    have hz12 : en < b → 0 < Y2.length := fun h => nz_ofQ lY2 h
    have hy1n : en ≤ m → Y1 = [] := fun h => nil_atQ lY1 h
    have hy1m : mid ≤ i → Y1 = [] := fun h => nil_atQ N3 h
    have hy2n : b ≤ en → Y2 = [] := fun h => nil_atQ lY2 h
    have hx2n : ¬ i < m → X2 = [] := fun h => nil_atQ lX2 (Nat.le_of_not_lt h)
    have hx1n : ¬ a < i → X1 = [] := fun h => nil_atQ lX1 (Nat.le_of_not_lt h)
    have hx2m : ¬ mid < en → X2 = [] := fun h => nil_atQ N4 (Nat.le_of_not_lt h)
    clear hd1 hd2 w0 w0b w1 w2 w3 w4 hcs hlo hhi hmid hnn hp hab hdx hdy hLx hLy hx1 hy1 hcut hl
    generalize hK0 : symKQ H' r n le P X Y Q = K0 at *
    simp [h0, h1, h2, h3, h4, h18, h19, h20, h21, h22, u1]
    refine condK_of (fun q1 => ?_) (fun q1 => ?_)
    all_goals
      simp at q1
      first
      | have q1' := q1.1
        have kr := S_rotateQ H' r n (.fn (.func cf) [] [capA ps]) (P ++ X1) X2 Y1 (Y2 ++ Q) i m en hz1 hz2 hz3 hz4 (hz5 q1.1) (hz6 q1.2) (by rw [hr, hL, hXe, hYe]; simp) h1k
        simp [h0, h1, h2, h3, h4, h18, h19, h20, h21, h22, u1]
        refine TS.pt kr ?_
        have hr1 : (H'.set r (.row n 1 (avs rwAQ (P ++ X1 ++ Y1 ++ X2 ++ (Y2 ++ Q)))))[r]? = some (.row n 1 (avs rwAQ (P ++ X1 ++ Y1 ++ (X2 ++ Y2 ++ Q)))) := by rw [List.getElem?_set_self hrl]; simp
        have hs1 : ∀ z, (H'.set r (.row n 1 (avs rwAQ (P ++ X1 ++ Y1 ++ X2 ++ (Y2 ++ Q))))).set r z = H'.set r z := fun z => by simp
        generalize H'.set r (.row n 1 (avs rwAQ (P ++ X1 ++ Y1 ++ X2 ++ (Y2 ++ Q)))) = H1 at *
        have hl1 := (List.getElem?_eq_some_iff.1 hr1).1
        simp [h0, h1, h2, h3, h4, h18, h19, h20, h21, h22, u1]
      | have e1 : P ++ X1 ++ Y1 ++ (X2 ++ Y2 ++ Q) = L := by
          rw [hL, hXe, hYe]
          by_cases hc : i < m
          · have : Y1 = [] := hy1n (q1 hc)
            rw [this]; simp
          · have : X2 = [] := hx2n hc
            rw [this]; simp
        have hr1 : H'[r]? = some (.row n 1 (avs rwAQ (P ++ X1 ++ Y1 ++ (X2 ++ Y2 ++ Q)))) := by rw [e1]; exact hr
        obtain ⟨H1, hH1⟩ : ∃ H1, H1 = H' := ⟨_, rfl⟩
        have hs1 : ∀ z, H1.set r z = H'.set r z := fun z => by rw [hH1]
        rw [← hH1] at hr1 ⊢
        have hl1 := (List.getElem?_eq_some_iff.1 hr1).1
        simp [h0, h1, h2, h3, h4, h18, h19, h20, h21, h22, u1]
      refine condK_of (fun q2 => ?_) (fun q2 => ?_)
    all_goals
      simp at q2
      first
      | have q2' := q2.1
        have k2 := ih H1 P X1 Y1 (X2 ++ Y2 ++ Q) a i mid N1 hz7 ha hz8 N3 (hz9 q2.1) (hz10 q2.2) hr1 hok1 hbf1 hXp.1 hYp.1
        simp [h0, h1, h2, h3, h4, h18, h19, h20, h21, h22, u1]
        refine k2.mono ?_
        rintro _ _ ⟨rfl, Z1, p1, s1, rfl⟩
        rw [hs1]
        have hr2 : (H'.set r (.row n 1 (avs rwAQ (P ++ Z1 ++ (X2 ++ Y2 ++ Q)))))[r]? = some (.row n 1 (avs rwAQ (P ++ Z1 ++ X2 ++ Y2 ++ Q))) := by rw [List.getElem?_set_self hrl]; simp
        have hs2 : ∀ z, (H'.set r (.row n 1 (avs rwAQ (P ++ Z1 ++ (X2 ++ Y2 ++ Q))))).set r z = H'.set r z := fun z => by simp
        have hst : H'.set r (.row n 1 (avs rwAQ (P ++ Z1 ++ (X2 ++ Y2 ++ Q)))) = H'.set r (.row n 1 (avs rwAQ (P ++ Z1 ++ X2 ++ Y2 ++ Q))) := by simp
        generalize H'.set r (.row n 1 (avs rwAQ (P ++ Z1 ++ (X2 ++ Y2 ++ Q)))) = H2 at *
        simp [h0, h1, h2, h3, h4, h18, h19, h20, h21, h22, u1]
      | obtain ⟨Z1, hZ1⟩ : ∃ Z1, Z1 = X1 ++ Y1 := ⟨_, rfl⟩
        have p1 : Z1.Perm (X1 ++ Y1) := by rw [hZ1]
        have s1 : Z1.Pairwise le := by
          by_cases hc : a < i
          · have : Y1 = [] := hy1m (q2 hc)
            rw [hZ1, this, List.append_nil]; exact hXp.1
          · have : X1 = [] := hx1n hc
            rw [hZ1, this]; exact hYp.1
        have hr2 : H1[r]? = some (.row n 1 (avs rwAQ (P ++ Z1 ++ X2 ++ Y2 ++ Q))) := by rw [hr1, hZ1]; simp
        obtain ⟨H2, hH2⟩ : ∃ H2, H2 = H1 := ⟨_, rfl⟩
        have hs2 : ∀ z, H2.set r z = H'.set r z := fun z => by rw [hH2]; exact hs1 z
        have hst : H2 = H'.set r (.row n 1 (avs rwAQ (P ++ Z1 ++ X2 ++ Y2 ++ Q))) := by
          rw [← hs1, hH2]
          have : H1[r] = .row n 1 (avs rwAQ (P ++ Z1 ++ X2 ++ Y2 ++ Q)) := by rw [List.getElem?_eq_getElem hl1] at hr2; exact Option.some.inj hr2
          rw [← this, List.set_getElem_self]
        rw [← hH2] at hr2 ⊢
        simp [h0, h1, h2, h3, h4, h18, h19, h20, h21, h22, u1]
      refine condK_of (fun q3 => ?_) (fun q3 => ?_)
    all_goals
      simp at q3
      have hZl : Z1.length = X1.length + Y1.length := by rw [p1.length_eq]; simp
      first
      | have q3' := q3.1
        have k3 := ih H2 (P ++ Z1) X2 Y2 Q mid en b N2 (by rw [← hz7]; simp only [List.length_append, hZl]; ac_rfl) (by rw [List.length_append, hZl, ha]; exact N5) (by rw [List.length_append, hZl, ha, N5]; exact N4) lY2 (hz11 q3.1) (hz12 q3.2) hr2 hok2 hbf2 hXp.2.1 hYp.2.1
        simp [h0, h1, h2, h3, h4, h18, h19, h20, h21, h22, u1]
        refine k3.mono ?_
        rintro _ _ ⟨rfl, Z2, p2, s2, rfl⟩
        rw [hs2]
        have := hfin Z1 Z2 p1 s1 p2 s2
        simp [h0, h1, h2, h3, h4, h18, h19, h20, h21, h22, u1]
        simpa using this
      | have s2 : (X2 ++ Y2).Pairwise le := by
          by_cases hc : mid < en
          · have : Y2 = [] := hy2n (q3 hc)
            rw [this, List.append_nil]; exact hXp.2.1
          · have : X2 = [] := hx2m hc
            rw [this]; exact hYp.2.1
        have := hfin Z1 (X2 ++ Y2) p1 s1 (List.Perm.refl _) s2
        simp [h0, h1, h2, h3, h4, h18, h19, h20, h21, h22, u1]
        rw [hst]
        simpa using this
end Go.Proofs.YtjplcdeaedflpaaGreatDoor.PL
namespace Go.Proofs.YtjplcdeaedflpaaGreatDoor.PL
open Go.Proofs
set_option linter.unusedVariables false
set_option linter.unusedSimpArgs false
set_option maxHeartbeats 4000000 in
theorem S_symBQ {cf : FuncId} {ps : List Int} {c : Int → Int → Int} {le bf : Int → Int → Prop} {ok : Int → Prop} (hC : Cmp3Q cf ps c le bf ok) (r n : Nat) (h1k : n ≤ 1000) (k : Nat) (ih : SymIHQ cf ps le bf ok r n k) (H : List HO) (P X Y Q : List Int) (a m b : Nat) (hk : X.length + Y.length ≤ k + 1) (hn : (P ++ X ++ Y ++ Q).length = n) (ha : P.length = a) (hm : P.length + X.length = m) (hb : m + Y.length = b) (hX0 : 0 < X.length) (hY0 : 0 < Y.length) (hr : H[r]? = some (.row n 1 (avs rwAQ (P ++ X ++ Y ++ Q))))
    (hok : ∀ z, z ∈ X ++ Y → ok z) (hbf : ∀ x, x ∈ X → ∀ y, y ∈ Y → bf x y) (hX : X.Pairwise le) (hY : Y.Pairwise le) (hx1 : ¬ X.length = 1) (hy1 : ¬ Y.length = 1) (hcase : ¬ (a + b) / 2 < m) :
    TS Tryz.prog 158 [.mv r n 1 0 n, .int .i64 a, .int .i64 m, .int .i64 b, .fn (.func cf) [] [capA ps]] H (symKQ H r n le P X Y Q) := by
  have hl : P.length + X.length + Y.length + Q.length = n := by rw [← hn]; simp; omega
  have hrl := (List.getElem?_eq_some_iff.1 hr).1
  obtain ⟨dx, hdx⟩ : ∃ d, d = X.length := ⟨_, rfl⟩
  obtain ⟨dy, hdy⟩ : ∃ d, d = Y.length := ⟨_, rfl⟩
  obtain ⟨mid, hmid⟩ : ∃ mid, mid = (a + b) / 2 := ⟨_, rfl⟩
  rw [← hmid] at hcase
  obtain ⟨ab, hab⟩ : ∃ ab, ab = a + b := ⟨_, rfl⟩
  obtain ⟨nn, hnn⟩ : ∃ nn, nn = mid + m := ⟨_, rfl⟩
  obtain ⟨p, hp⟩ : ∃ p, nn = p + 1 := ⟨nn - 1, by omega⟩
  obtain ⟨lo, hlo⟩ : ∃ lo, lo = if mid < m then nn - b else a := ⟨_, rfl⟩
  obtain ⟨hi, hhi⟩ : ∃ hi, hi = if mid < m then mid else m := ⟨_, rfl⟩
  have hcs : (mid < m ∧ lo + b = nn ∧ hi = mid) ∨ (¬ mid < m ∧ lo = a ∧ hi = m) := by
    by_cases hc : mid < m
    · left; rw [if_pos hc] at hlo hhi; exact ⟨hc, by omega, hhi⟩
    · right; rw [if_neg hc] at hlo hhi; exact ⟨hc, hlo, hhi⟩
  have w0 : IntKind.i64.wrap ((m : Int) - a) = (dx : Int) := by rw [wrap_i64 (by omega) (by omega)]; omega
  have w0b : IntKind.i64.wrap ((b : Int) - m) = (dy : Int) := by rw [wrap_i64 (by omega) (by omega)]; omega
  have hd1 : ¬ (dx : Int) = 1 := by omega
  have hd2 : ¬ (dy : Int) = 1 := by omega
  have w1 : IntKind.i64.wrap ((a : Int) + b) = (ab : Int) := by rw [wrap_i64 (by omega) (by omega)]; omega
  have w2 := half_wrapQ (p := ab) (h := mid) (by omega) (by omega)
  have w3 : IntKind.i64.wrap ((mid : Int) + m) = (nn : Int) := by rw [wrap_i64 (by omega) (by omega)]; omega
  have w4 : IntKind.i64.wrap ((nn : Int) - 1) = (p : Int) := by rw [wrap_i64 (by omega) (by omega)]; omega
  obtain ⟨L, hL⟩ : ∃ L, L = P ++ X ++ Y ++ Q := ⟨_, rfl⟩
  have hLl : L.length = n := by rw [hL]; exact hn
  have hLx : ∀ q (h : q < X.length) k, L[a + q]'k = X[q] := fun q h k => by
    have : L[a + q]? = some X[q] := by
      rw [hL, List.append_assoc, List.append_assoc, List.getElem?_append_right (by omega), show a + q - P.length = q by omega, List.getElem?_append_left h, List.getElem?_eq_getElem h]
    rw [List.getElem?_eq_getElem k] at this; exact Option.some.inj this
  have hLy : ∀ q (h : q < Y.length) k, L[m + q]'k = Y[q] := fun q h k => by
    have : L[m + q]? = some Y[q] := by
      rw [hL, List.append_assoc, List.getElem?_append_right (by simp; omega)]
      simp
      rw [List.getElem?_append_left (by omega), show m + q - (P.length + X.length) = q by omega, List.getElem?_eq_getElem h]
    rw [List.getElem?_eq_getElem k] at this; exact Option.some.inj this
  rw [← hL] at hr
  refine TS.body mix Tryz.func158 (by kernel_rfl) rfl (by kernel_rfl) (by simp) ?_
  simp [w0, w0b, hd1, hd2, w1, w2, w3, hcase]
  simp [w4]
  refine vc_loop (fun k : Nat => k) (fun k e H' => ∃ (i j : Nat), e 0 = .mv r n 1 0 n ∧ e 1 = .int .i64 a ∧ e 2 = .int .i64 m ∧ e 3 = .int .i64 b ∧ e 4 = .fn (.func cf) [] [capA ps] ∧ e 18 = .int .i64 mid ∧ e 19 = .int .i64 nn ∧ e 20 = .int .i64 i ∧ e 21 = .int .i64 j ∧ e 22 = .int .i64 p ∧ k = j - i ∧ cutSQ le X Y a m nn lo hi i j ∧ H' = H) (hi - lo) ?_ ?_
  · exact ⟨lo, hi, by simp, by simp, by simp, by simp, by simp, by simp, by simp, by first | (simp; done) | (simp; omega), by first | (simp; done) | (simp; omega), by simp, rfl, ⟨by omega, by omega, by omega, .inl rfl, .inl rfl⟩, rfl⟩
  rintro k e H' ⟨i, j, h0, h1, h2, h3, h4, h18, h19, h20, h21, h22, rfl, hcut, rfl⟩
  by_cases hlt : i < j
  · obtain ⟨hci, _, hcj, hc1, hc2⟩ := hcut
    obtain ⟨ij, hij⟩ : ∃ ij, ij = i + j := ⟨_, rfl⟩
    have u1 : IntKind.i64.wrap ((i : Int) + j) = (ij : Int) := by rw [wrap_i64 (by omega) (by omega)]; omega
    obtain ⟨h, hh⟩ : ∃ h, h = ij / 2 := ⟨_, rfl⟩
    have u2 := half_wrapQ (p := ij) (h := h) (by omega) hh
    obtain ⟨g, hg⟩ : ∃ g, g + h = p := ⟨p - h, by omega⟩
    have u3 : IntKind.i64.wrap ((p : Int) - h) = (g : Int) := by rw [wrap_i64 (by omega) (by omega)]; omega
    have u4 : IntKind.i64.wrap ((h : Int) + 1) = ((h + 1 : Nat) : Int) := by rw [wrap_i64 (by omega) (by omega)]; omega
    obtain ⟨q, hq⟩ : ∃ q, h = a + q := ⟨h - a, by omega⟩
    obtain ⟨t, ht⟩ : ∃ t, g = m + t := ⟨g - m, by omega⟩
    have hqX : q < X.length := by omega
    have htY : t < Y.length := by omega
    have b1 : h < n := by omega
    have b2 : g < n := by omega
    have g1 : ∀ k, L[h]'k = X[q] := fun k => by subst hq; exact hLx q hqX k
    have g2 : ∀ k, L[g]'k = Y[t] := fun k => by subst ht; exact hLy t htY k
    have kc := hC.cmp Y[t] X[q] (hok _ (List.mem_append_right _ (List.getElem_mem htY))) (hok _ (List.mem_append_left _ (List.getElem_mem hqX)))
    have hlk := hC.link X[q] Y[t] (hbf _ (List.getElem_mem hqX) _ (List.getElem_mem htY))
    simp [h0, h1, h2, h3, h4, h18, h19, h20, h21, h22, hlt, u1, u2, u3, hr, hLl, g1, g2, b1, b2]
    refine TDK.callW kc (Dws.self (by simp)) ?_
    by_cases hcc : c Y[t] X[q] < 0
    · have hle := hlk.1 hcc
      simp [h0, h1, h2, h3, h4, h18, h19, h20, h21, h22, hlt, u1, u2, u3, hr, hLl, g1, g2, b1, b2, hcc]
      refine ⟨h - i, by omega, i, rfl, h, rfl, rfl, by omega, by omega, by omega, hc1, .inr fun q' t' hq' ht' e1 e2 => ?_⟩
      obtain rfl : q' = q := by omega
      obtain rfl : t' = t := by omega
      exact hle
    · have hle : le X[q] Y[t] := Classical.byContradiction fun h2 => hcc (hlk.2 h2)
      have hcc' : 0 ≤ c Y[t] X[q] := by omega
      simp [h0, h1, h2, h3, h4, h18, h19, h20, h21, h22, hlt, u1, u2, u3, hr, hLl, g1, g2, b1, b2, hcc, hcc']
      refine ⟨j - (h + 1), by omega, h + 1, u4, j, rfl, rfl, by omega, by omega, by omega, .inr fun q' t' hq' ht' e1 e2 => ?_, hc2⟩
      obtain rfl : q' = q := by omega
      obtain rfl : t' = t := by omega
      exact hle
  · obtain rfl : i = j := by have := hcut.2.1; omega
    obtain ⟨t1, t2, t3, t4, t5, t6⟩ := cut_partsQ hC (by omega) hb (by omega) (by omega) hmid hnn hlo hhi hX hY hcut
    obtain ⟨en, hen⟩ : ∃ en, en = nn - i := ⟨_, rfl⟩
    rw [← hen] at t3 t4 t5 t6
    have u1 : IntKind.i64.wrap ((nn : Int) - i) = (en : Int) := by rw [wrap_i64 (by omega) (by omega)]; omega
    obtain ⟨X1, hX1⟩ : ∃ Z, Z = X.take (i - a) := ⟨_, rfl⟩
    obtain ⟨X2, hX2⟩ : ∃ Z, Z = X.drop (i - a) := ⟨_, rfl⟩
    obtain ⟨Y1, hY1⟩ : ∃ Z, Z = Y.take (en - m) := ⟨_, rfl⟩
    obtain ⟨Y2, hY2⟩ : ∃ Z, Z = Y.drop (en - m) := ⟨_, rfl⟩
    have hXe : X = X1 ++ X2 := by rw [hX1, hX2, List.take_append_drop]
    have hYe : Y = Y1 ++ Y2 := by rw [hY1, hY2, List.take_append_drop]
    have lX1 : a + X1.length = i := by rw [hX1, List.length_take]; omega
    have lX2 : i + X2.length = m := by rw [hX2, List.length_drop]; omega
    have lY1 : m + Y1.length = en := by rw [hY1, List.length_take]; omega
    have lY2 : en + Y2.length = b := by rw [hY2, List.length_drop]; omega
    rw [← hX1, ← hY2] at t5
    rw [← hY1, ← hX2] at t6
    have hfin : ∀ Z1 Z2 : List Int, Z1.Perm (X1 ++ Y1) → Z1.Pairwise le → Z2.Perm (X2 ++ Y2) → Z2.Pairwise le → symKQ H' r n le P X Y Q (.tup []) (H'.set r (.row n 1 (avs rwAQ (P ++ Z1 ++ Z2 ++ Q)))) := fun Z1 Z2 p1 s1 p2 s2 => sym_finQ hXe hYe hX hY t5 t6 p1 s1 p2 s2
    have hXp := hX
    have hYp := hY
    rw [hXe, List.pairwise_append] at hXp
    rw [hYe, List.pairwise_append] at hYp
    have hok1 : ∀ z, z ∈ X1 ++ Y1 → ok z := fun z hz => hok z (by rw [hXe, hYe]; rw [List.mem_append] at hz; rcases hz with hz | hz <;> simp [hz])
    have hok2 : ∀ z, z ∈ X2 ++ Y2 → ok z := fun z hz => hok z (by rw [hXe, hYe]; rw [List.mem_append] at hz; rcases hz with hz | hz <;> simp [hz])
    have hbf1 : ∀ x, x ∈ X1 → ∀ y, y ∈ Y1 → bf x y := fun x hx y hy => hbf x (by rw [hXe]; simp [hx]) y (by rw [hYe]; simp [hy])
    have hbf2 : ∀ x, x ∈ X2 → ∀ y, y ∈ Y2 → bf x y := fun x hx y hy => hbf x (by rw [hXe]; simp [hx]) y (by rw [hYe]; simp [hy])
    obtain ⟨N1, N2, N3, N4, N5⟩ := sym_numsQ (k := k) hmid hnn hen lX1 lX2 lY1 lY2 (by omega) (by omega)
    have hz1 : ((P ++ X1) ++ X2 ++ Y1 ++ (Y2 ++ Q)).length = n := by rw [← hLl, hL, hXe, hYe]; simp
    have hz2 : (P ++ X1).length = i := by rw [List.length_append, ha]; exact lX1
    have hz3 : (P ++ X1).length + X2.length = m := by rw [hz2]; exact lX2
    have hz4 : (P ++ X1).length + X2.length + Y1.length = en := by rw [hz3]; exact lY1
    have hz5 : i < m → 0 < X2.length := fun h => nz_ofQ lX2 h
    have hz6 : m < en → 0 < Y1.length := fun h => nz_ofQ lY1 h
    have hz7 : (P ++ X1 ++ Y1 ++ (X2 ++ Y2 ++ Q)).length = n := by rw [← hz1]; simp only [List.length_append]; ac_rfl
    have hz8 : P.length + X1.length = i := by rw [ha]; exact lX1
    have hz9 : a < i → 0 < X1.length := fun h => nz_ofQ lX1 h
    have hz10 : i < mid → 0 < Y1.length := fun h => nz_ofQ N3 h
    have hz11 : mid < en → 0 < X2.length := fun h => nz_ofQ N4 h
    have hz12 : en < b → 0 < Y2.length := fun h => nz_ofQ lY2 h
    have hy1n : en ≤ m → Y1 = [] := fun h => nil_atQ lY1 h
    have hy1m : mid ≤ i → Y1 = [] := fun h => nil_atQ N3 h
    have hy2n : b ≤ en → Y2 = [] := fun h => nil_atQ lY2 h
    have hx2n : ¬ i < m → X2 = [] := fun h => nil_atQ lX2 (Nat.le_of_not_lt h)
    have hx1n : ¬ a < i → X1 = [] := fun h => nil_atQ lX1 (Nat.le_of_not_lt h)
    have hx2m : ¬ mid < en → X2 = [] := fun h => nil_atQ N4 (Nat.le_of_not_lt h)
    clear hd1 hd2 w0 w0b w1 w2 w3 w4 hcs hlo hhi hmid hnn hp hab hdx hdy hLx hLy hx1 hy1 hcut hl
    generalize hK0 : symKQ H' r n le P X Y Q = K0 at *
    simp [h0, h1, h2, h3, h4, h18, h19, h20, h21, h22, u1]
    refine condK_of (fun q1 => ?_) (fun q1 => ?_)
    all_goals
      simp at q1
      first
      | have q1' := q1.1
        have kr := S_rotateQ H' r n (.fn (.func cf) [] [capA ps]) (P ++ X1) X2 Y1 (Y2 ++ Q) i m en hz1 hz2 hz3 hz4 (hz5 q1.1) (hz6 q1.2) (by rw [hr, hL, hXe, hYe]; simp) h1k
        simp [h0, h1, h2, h3, h4, h18, h19, h20, h21, h22, u1]
        refine TS.pt kr ?_
        have hr1 : (H'.set r (.row n 1 (avs rwAQ (P ++ X1 ++ Y1 ++ X2 ++ (Y2 ++ Q)))))[r]? = some (.row n 1 (avs rwAQ (P ++ X1 ++ Y1 ++ (X2 ++ Y2 ++ Q)))) := by rw [List.getElem?_set_self hrl]; simp
        have hs1 : ∀ z, (H'.set r (.row n 1 (avs rwAQ (P ++ X1 ++ Y1 ++ X2 ++ (Y2 ++ Q))))).set r z = H'.set r z := fun z => by simp
        generalize H'.set r (.row n 1 (avs rwAQ (P ++ X1 ++ Y1 ++ X2 ++ (Y2 ++ Q)))) = H1 at *
        have hl1 := (List.getElem?_eq_some_iff.1 hr1).1
        simp [h0, h1, h2, h3, h4, h18, h19, h20, h21, h22, u1]
      | have e1 : P ++ X1 ++ Y1 ++ (X2 ++ Y2 ++ Q) = L := by
          rw [hL, hXe, hYe]
          by_cases hc : i < m
          · have : Y1 = [] := hy1n (q1 hc)
            rw [this]; simp
          · have : X2 = [] := hx2n hc
            rw [this]; simp
        have hr1 : H'[r]? = some (.row n 1 (avs rwAQ (P ++ X1 ++ Y1 ++ (X2 ++ Y2 ++ Q)))) := by rw [e1]; exact hr
        obtain ⟨H1, hH1⟩ : ∃ H1, H1 = H' := ⟨_, rfl⟩
        have hs1 : ∀ z, H1.set r z = H'.set r z := fun z => by rw [hH1]
        rw [← hH1] at hr1 ⊢
        have hl1 := (List.getElem?_eq_some_iff.1 hr1).1
        simp [h0, h1, h2, h3, h4, h18, h19, h20, h21, h22, u1]
      refine condK_of (fun q2 => ?_) (fun q2 => ?_)
    all_goals
      simp at q2
      first
      | have q2' := q2.1
        have k2 := ih H1 P X1 Y1 (X2 ++ Y2 ++ Q) a i mid N1 hz7 ha hz8 N3 (hz9 q2.1) (hz10 q2.2) hr1 hok1 hbf1 hXp.1 hYp.1
        simp [h0, h1, h2, h3, h4, h18, h19, h20, h21, h22, u1]
        refine k2.mono ?_
        rintro _ _ ⟨rfl, Z1, p1, s1, rfl⟩
        rw [hs1]
        have hr2 : (H'.set r (.row n 1 (avs rwAQ (P ++ Z1 ++ (X2 ++ Y2 ++ Q)))))[r]? = some (.row n 1 (avs rwAQ (P ++ Z1 ++ X2 ++ Y2 ++ Q))) := by rw [List.getElem?_set_self hrl]; simp
        have hs2 : ∀ z, (H'.set r (.row n 1 (avs rwAQ (P ++ Z1 ++ (X2 ++ Y2 ++ Q))))).set r z = H'.set r z := fun z => by simp
        have hst : H'.set r (.row n 1 (avs rwAQ (P ++ Z1 ++ (X2 ++ Y2 ++ Q)))) = H'.set r (.row n 1 (avs rwAQ (P ++ Z1 ++ X2 ++ Y2 ++ Q))) := by simp
        generalize H'.set r (.row n 1 (avs rwAQ (P ++ Z1 ++ (X2 ++ Y2 ++ Q)))) = H2 at *
        simp [h0, h1, h2, h3, h4, h18, h19, h20, h21, h22, u1]
      | obtain ⟨Z1, hZ1⟩ : ∃ Z1, Z1 = X1 ++ Y1 := ⟨_, rfl⟩
        have p1 : Z1.Perm (X1 ++ Y1) := by rw [hZ1]
        have s1 : Z1.Pairwise le := by
          by_cases hc : a < i
          · have : Y1 = [] := hy1m (q2 hc)
            rw [hZ1, this, List.append_nil]; exact hXp.1
          · have : X1 = [] := hx1n hc
            rw [hZ1, this]; exact hYp.1
        have hr2 : H1[r]? = some (.row n 1 (avs rwAQ (P ++ Z1 ++ X2 ++ Y2 ++ Q))) := by rw [hr1, hZ1]; simp
        obtain ⟨H2, hH2⟩ : ∃ H2, H2 = H1 := ⟨_, rfl⟩
        have hs2 : ∀ z, H2.set r z = H'.set r z := fun z => by rw [hH2]; exact hs1 z
        have hst : H2 = H'.set r (.row n 1 (avs rwAQ (P ++ Z1 ++ X2 ++ Y2 ++ Q))) := by
          rw [← hs1, hH2]
          have : H1[r] = .row n 1 (avs rwAQ (P ++ Z1 ++ X2 ++ Y2 ++ Q)) := by rw [List.getElem?_eq_getElem hl1] at hr2; exact Option.some.inj hr2
          rw [← this, List.set_getElem_self]
        rw [← hH2] at hr2 ⊢
        simp [h0, h1, h2, h3, h4, h18, h19, h20, h21, h22, u1]
      refine condK_of (fun q3 => ?_) (fun q3 => ?_)
    all_goals
      simp at q3
      have hZl : Z1.length = X1.length + Y1.length := by rw [p1.length_eq]; simp
      first
      | have q3' := q3.1
        have k3 := ih H2 (P ++ Z1) X2 Y2 Q mid en b N2 (by rw [← hz7]; simp only [List.length_append, hZl]; ac_rfl) (by rw [List.length_append, hZl, ha]; exact N5) (by rw [List.length_append, hZl, ha, N5]; exact N4) lY2 (hz11 q3.1) (hz12 q3.2) hr2 hok2 hbf2 hXp.2.1 hYp.2.1
        simp [h0, h1, h2, h3, h4, h18, h19, h20, h21, h22, u1]
        refine k3.mono ?_
        rintro _ _ ⟨rfl, Z2, p2, s2, rfl⟩
        rw [hs2]
        have := hfin Z1 Z2 p1 s1 p2 s2
        simp [h0, h1, h2, h3, h4, h18, h19, h20, h21, h22, u1]
        simpa using this
      | have s2 : (X2 ++ Y2).Pairwise le := by
          by_cases hc : mid < en
          · have : Y2 = [] := hy2n (q3 hc)
            rw [this, List.append_nil]; exact hXp.2.1
          · have : X2 = [] := hx2m hc
            rw [this]; exact hYp.2.1
        have := hfin Z1 (X2 ++ Y2) p1 s1 (List.Perm.refl _) s2
        simp [h0, h1, h2, h3, h4, h18, h19, h20, h21, h22, u1]
        rw [hst]
        simpa using this
theorem S_symQ {cf : FuncId} {ps : List Int} {c : Int → Int → Int} {le bf : Int → Int → Prop} {ok : Int → Prop} (hC : Cmp3Q cf ps c le bf ok) (r n : Nat) (h1k : n ≤ 1000) : ∀ (k : Nat), SymIHQ cf ps le bf ok r n k := by
  intro k
  induction k with
  | zero => intro H P X Y Q a m b hk _ _ _ _ hx; omega
  | succ k ih =>
  intro H P X Y Q a m b hk hn ha hm hb hX0 hY0 hr hok hbf hX hY
  have hl : P.length + X.length + Y.length + Q.length = n := by rw [← hn]; simp; omega
  by_cases hx1 : X.length = 1
  · obtain ⟨x, rfl⟩ := List.length_eq_one_iff.1 hx1
    exact S_sym1Q hC H r n P x Y Q a m b hn ha (by simpa using hm) (by simp at hm; omega) hr h1k (fun z hz => hok z (by simpa using hz)) (fun y hy => hbf x (by simp) y hy) hY
  by_cases hy1 : Y.length = 1
  · obtain ⟨y, rfl⟩ := List.length_eq_one_iff.1 hy1
    exact S_sym2Q hC H r n P X y Q a m b hn ha hm (by simpa using hb) (by omega) hr h1k hok (fun x hx => hbf x hx y (by simp)) hX
  by_cases hcase : (a + b) / 2 < m
  · exact S_symAQ hC r n h1k k ih H P X Y Q a m b hk hn ha hm hb hX0 hY0 hr hok hbf hX hY hx1 hy1 hcase
  · exact S_symBQ hC r n h1k k ih H P X Y Q a m b hk hn ha hm hb hX0 hY0 hr hok hbf hX hY hx1 hy1 hcase
end Go.Proofs.YtjplcdeaedflpaaGreatDoor.PL
