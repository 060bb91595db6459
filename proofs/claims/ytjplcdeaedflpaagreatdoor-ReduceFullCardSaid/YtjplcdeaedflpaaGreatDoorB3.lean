/- Contracts of functions of the program, and plain laws (part 3): slices.SortStableFunc on numbers: the merge by itself, and all; the merge by itself, where the middle lies in the second part  all; slices.SortStableFunc on numbers: blocks, and all; Trees by their parents: from the root on; Trees by their parents: ways; Join trees: the reference  and parents by ears. -/
import Derived.Test.YtjplcdeaedflpaaGreatDoorB2
namespace Go.Proofs.YtjplcdeaedflpaaGreatDoor.PL
open Go.Proofs
set_option linter.unusedVariables false
set_option linter.unusedSimpArgs false
/-- where the search for the cut stands -/
def cutSQ (le : Int → Int → Prop) (X Y : List Int) (a m n lo hi i j : Nat) : Prop :=
  lo ≤ i ∧ i ≤ j ∧ j ≤ hi ∧ (i = lo ∨ ∀ q t (hq : q < X.length) (ht : t < Y.length), a + q + 1 = i → m + t + i = n → le X[q] Y[t]) ∧ (j = hi ∨ ∀ q t (hq : q < X.length) (ht : t < Y.length), a + q = j → m + t + j + 1 = n → ¬ le X[q] Y[t])
/-- the cut, and what it tells -/
theorem cut_partsQ {le bf : Int → Int → Prop} {cf : FuncId} {ps : List Int} {c : Int → Int → Int} {ok : Int → Prop} (hC : Cmp3Q cf ps c le bf ok) {X Y : List Int} {a m b n mid lo hi s : Nat} (hm : a + X.length = m) (hb : m + Y.length = b) (hX0 : 0 < X.length) (hY0 : 0 < Y.length) (hmid : mid = (a + b) / 2) (hn : n = mid + m)
    (hlo : lo = if mid < m then n - b else a) (hhi : hi = if mid < m then mid else m) (hX : X.Pairwise le) (hY : Y.Pairwise le) (h : cutSQ le X Y a m n lo hi s s) :
    a ≤ s ∧ s ≤ m ∧ m ≤ n - s ∧ n - s ≤ b ∧ (∀ x, x ∈ X.take (s - a) → ∀ y, y ∈ Y.drop (n - s - m) → le x y) ∧ (∀ y, y ∈ Y.take (n - s - m) → ∀ x, x ∈ X.drop (s - a) → le y x) := by
  obtain ⟨h1, h2, h3, h4, h5⟩ := h
  have hXs : ∀ q q', q < q' → ∀ (h : q < X.length) (h' : q' < X.length), le X[q] X[q'] := fun q q' hq h h' => List.pairwise_iff_getElem.1 hX q q' h h' hq
  have hYs : ∀ q q', q < q' → ∀ (h : q < Y.length) (h' : q' < Y.length), le Y[q] Y[q'] := fun q q' hq h h' => List.pairwise_iff_getElem.1 hY q q' h h' hq
  have hb1 : a ≤ s ∧ s ≤ m ∧ m ≤ n - s ∧ n - s ≤ b := by
    split at hlo <;> rename_i hc <;> simp only [hc, if_true, if_false] at hhi <;> omega
  refine ⟨hb1.1, hb1.2.1, hb1.2.2.1, hb1.2.2.2, fun x hx y hy => ?_, fun y hy x hx => ?_⟩
  · obtain ⟨q, hq, rfl⟩ := List.mem_take_iff_getElem.1 hx
    obtain ⟨t, ht, rfl⟩ := List.mem_drop_iff_getElem.1 hy
    rcases h4 with e | h4
    · exfalso
      split at hlo <;> omega
    · have k1 : s - a - 1 < X.length := by omega
      have k2 : n - s - m < Y.length := by omega
      have k3 := h4 (s - a - 1) (n - s - m) k1 k2 (by omega) (by omega)
      have k4 : le X[q] Y[n - s - m] := by
        by_cases e : q = s - a - 1
        · subst e; exact k3
        · exact hC.trans _ _ _ (hXs q (s - a - 1) (by omega) (by omega) k1) k3
      by_cases e : t = 0
      · subst e; exact k4
      · exact hC.trans _ _ _ k4 (hYs (n - s - m) (n - s - m + t) (by omega) k2 (by omega))
  · obtain ⟨t, ht, rfl⟩ := List.mem_take_iff_getElem.1 hy
    obtain ⟨q, hq, rfl⟩ := List.mem_drop_iff_getElem.1 hx
    rcases h5 with e | h5
    · exfalso
      split at hhi <;> omega
    · have k1 : s - a < X.length := by omega
      have k2 : n - s - m - 1 < Y.length := by omega
      have k3 := hC.total _ _ (h5 (s - a) (n - s - m - 1) k1 k2 (by omega) (by omega))
      have k4 : le Y[t] X[s - a] := by
        by_cases e : t = n - s - m - 1
        · subst e; exact k3
        · exact hC.trans _ _ _ (hYs t (n - s - m - 1) (by omega) (by omega) k2) k3
      by_cases e : q = 0
      · subst e; exact k4
      · exact hC.trans _ _ _ k4 (hXs (s - a) (s - a + q) (by omega) k1 (by omega))
theorem sym_finQ {le : Int → Int → Prop} {X Y X1 X2 Y1 Y2 Z1 Z2 P Q : List Int} {H : List HO} {r n : Nat} (hXe : X = X1 ++ X2) (hYe : Y = Y1 ++ Y2) (hX : X.Pairwise le) (hY : Y.Pairwise le) (c1 : ∀ x, x ∈ X1 → ∀ y, y ∈ Y2 → le x y) (c2 : ∀ y, y ∈ Y1 → ∀ x, x ∈ X2 → le y x)
    (p1 : Z1.Perm (X1 ++ Y1)) (s1 : Z1.Pairwise le) (p2 : Z2.Perm (X2 ++ Y2)) (s2 : Z2.Pairwise le) : symKQ H r n le P X Y Q (.tup []) (H.set r (.row n 1 (avs rwAQ (P ++ Z1 ++ Z2 ++ Q)))) := by
  subst hXe; subst hYe
  rw [List.pairwise_append] at hX hY
  refine ⟨rfl, Z1 ++ Z2, ?_, ?_, by simp⟩
  · refine (p1.append p2).trans ?_
    have h1 : (X1 ++ Y1 ++ (X2 ++ Y2)).Perm (X1 ++ (X2 ++ Y1) ++ Y2) := by
      have : X1 ++ Y1 ++ (X2 ++ Y2) = X1 ++ (Y1 ++ X2) ++ Y2 := by simp
      rw [this]
      exact ((List.perm_append_comm (l₁ := Y1) (l₂ := X2)).append_left X1).append_right Y2
    have h2 : X1 ++ (X2 ++ Y1) ++ Y2 = X1 ++ X2 ++ (Y1 ++ Y2) := by simp
    rw [h2] at h1
    exact h1
  · rw [List.pairwise_append]
    refine ⟨s1, s2, fun z hz w hw => ?_⟩
    have hz' := p1.mem_iff.1 hz
    have hw' := p2.mem_iff.1 hw
    rw [List.mem_append] at hz' hw'
    rcases hz' with hz' | hz' <;> rcases hw' with hw' | hw'
    · exact hX.2.2 z hz' w hw'
    · exact c1 z hz' w hw'
    · exact c2 z hz' w hw'
    · exact hY.2.2 z hz' w hw'
theorem nz_ofQ {a x i : Nat} (h : a + x = i) (h2 : a < i) : 0 < x := by omega
theorem nil_atQ {α : Type} {l : List α} {a i : Nat} (h : a + l.length = i) (h2 : i ≤ a) : l = [] := List.eq_nil_of_length_eq_zero (by omega)
theorem sym_numsQ {a b m mid nn i en k x1 x2 y1 y2 : Nat} (hmid : mid = (a + b) / 2) (hnn : nn = mid + m) (hen : en = nn - i) (l1 : a + x1 = i) (l2 : i + x2 = m) (l3 : m + y1 = en) (l4 : en + y2 = b) (hk : b ≤ a + (k + 1)) (ha : a + 2 ≤ b) : x1 + y1 ≤ k ∧ x2 + y2 ≤ k ∧ i + y1 = mid ∧ mid + x2 = en ∧ a + (x1 + y1) = mid := by
  have h1 : i + en = nn := by omega
  have h2 : i + y1 = mid := by omega
  refine ⟨by omega, by omega, h2, by omega, by omega⟩
def SymIHQ (cf : FuncId) (ps : List Int) (le bf : Int → Int → Prop) (ok : Int → Prop) (r n k : Nat) : Prop := ∀ (H : List HO) (P X Y Q : List Int) (a m b : Nat), X.length + Y.length ≤ k → (P ++ X ++ Y ++ Q).length = n → P.length = a → P.length + X.length = m → m + Y.length = b → 0 < X.length → 0 < Y.length → H[r]? = some (.row n 1 (avs rwAQ (P ++ X ++ Y ++ Q))) →
    (∀ z, z ∈ X ++ Y → ok z) → (∀ x, x ∈ X → ∀ y, y ∈ Y → bf x y) → X.Pairwise le → Y.Pairwise le →
    TS Tryz.prog 158 [.mv r n 1 0 n, .int .i64 a, .int .i64 m, .int .i64 b, .fn (.func cf) [] [capA ps]] H (symKQ H r n le P X Y Q)
set_option maxHeartbeats 4000000 in
theorem S_symAQ {cf : FuncId} {ps : List Int} {c : Int → Int → Int} {le bf : Int → Int → Prop} {ok : Int → Prop} (hC : Cmp3Q cf ps c le bf ok) (r n : Nat) (h1k : n ≤ 1000) (k : Nat) (ih : SymIHQ cf ps le bf ok r n k) (H : List HO) (P X Y Q : List Int) (a m b : Nat) (hk : X.length + Y.length ≤ k + 1) (hn : (P ++ X ++ Y ++ Q).length = n) (ha : P.length = a) (hm : P.length + X.length = m) (hb : m + Y.length = b) (hX0 : 0 < X.length) (hY0 : 0 < Y.length) (hr : H[r]? = some (.row n 1 (avs rwAQ (P ++ X ++ Y ++ Q))))
    (hok : ∀ z, z ∈ X ++ Y → ok z) (hbf : ∀ x, x ∈ X → ∀ y, y ∈ Y → bf x y) (hX : X.Pairwise le) (hY : Y.Pairwise le) (hx1 : ¬ X.length = 1) (hy1 : ¬ Y.length = 1) (hcase : (a + b) / 2 < m) :
    TS Tryz.prog 158 [.mv r n 1 0 n, .int .i64 a, .int .i64 m, .int .i64 b, .fn (.func cf) [] [capA ps]] H (symKQ H r n le P X Y Q) := by
  have hl : P.length + X.length + Y.length + Q.length = n := by rw [← hn]; simp; omega
  have hrl := (List.getElem?_eq_some_iff.1 hr).1
  obtain ⟨dx, hdx⟩ : ∃ d, d = X.length := ⟨_, rfl⟩
  obtain ⟨dy, hdy⟩ : ∃ d, d = Y.length := ⟨_, rfl⟩
  obtain ⟨mid, hmid⟩ : ∃ mid, mid = (a + b) / 2 := ⟨_, rfl⟩
  rw [← hmid] at hcase
  obtain ⟨ab, hab⟩ : ∃ ab, ab = a + b := ⟨_, rfl⟩
  obtain ⟨nn, hnn⟩ : ∃ nn, nn = mid + m := ⟨_, rfl⟩
  obtain ⟨p, hp⟩ : ∃ p, nn = p + 1 := ⟨nn - 1, by omega⟩
  obtain ⟨lo, hlo⟩ : ∃ lo, lo = if mid < m then nn - b else a := ⟨_, rfl⟩
  obtain ⟨hi, hhi⟩ : ∃ hi, hi = if mid < m then mid else m := ⟨_, rfl⟩
  have hcs : (mid < m ∧ lo + b = nn ∧ hi = mid) ∨ (¬ mid < m ∧ lo = a ∧ hi = m) := by
    by_cases hc : mid < m
    · left; rw [if_pos hc] at hlo hhi; exact ⟨hc, by omega, hhi⟩
    · right; rw [if_neg hc] at hlo hhi; exact ⟨hc, hlo, hhi⟩
  have w0 : IntKind.i64.wrap ((m : Int) - a) = (dx : Int) := by rw [wrap_i64 (by omega) (by omega)]; omega
  have w0b : IntKind.i64.wrap ((b : Int) - m) = (dy : Int) := by rw [wrap_i64 (by omega) (by omega)]; omega
  have hd1 : ¬ (dx : Int) = 1 := by omega
  have hd2 : ¬ (dy : Int) = 1 := by omega
  have w1 : IntKind.i64.wrap ((a : Int) + b) = (ab : Int) := by rw [wrap_i64 (by omega) (by omega)]; omega
  have w2 := half_wrapQ (p := ab) (h := mid) (by omega) (by omega)
  have w3 : IntKind.i64.wrap ((mid : Int) + m) = (nn : Int) := by rw [wrap_i64 (by omega) (by omega)]; omega
  have w4 : IntKind.i64.wrap ((nn : Int) - 1) = (p : Int) := by rw [wrap_i64 (by omega) (by omega)]; omega
  obtain ⟨L, hL⟩ : ∃ L, L = P ++ X ++ Y ++ Q := ⟨_, rfl⟩
  have hLl : L.length = n := by rw [hL]; exact hn
  have hLx : ∀ q (h : q < X.length) k, L[a + q]'k = X[q] := fun q h k => by
    have : L[a + q]? = some X[q] := by
      rw [hL, List.append_assoc, List.append_assoc, List.getElem?_append_right (by omega), show a + q - P.length = q by omega, List.getElem?_append_left h, List.getElem?_eq_getElem h]
    rw [List.getElem?_eq_getElem k] at this; exact Option.some.inj this
  have hLy : ∀ q (h : q < Y.length) k, L[m + q]'k = Y[q] := fun q h k => by
    have : L[m + q]? = some Y[q] := by
      rw [hL, List.append_assoc, List.getElem?_append_right (by simp; omega)]
      simp
      rw [List.getElem?_append_left (by omega), show m + q - (P.length + X.length) = q by omega, List.getElem?_eq_getElem h]
    rw [List.getElem?_eq_getElem k] at this; exact Option.some.inj this
  rw [← hL] at hr
  refine TS.body mix Tryz.func158 (by kernel_rfl) rfl (by kernel_rfl) (by simp) ?_
  simp [w0, w0b, hd1, hd2, w1, w2, w3, hcase]
  have hc : mid < m := hcase
  have w5 : IntKind.i64.wrap ((nn : Int) - b) = (lo : Int) := by rw [wrap_i64 (by omega) (by omega)]; omega
  simp [w5, w4]
  refine vc_loop (fun k : Nat => k) (fun k e H' => ∃ (i j : Nat), e 0 = .mv r n 1 0 n ∧ e 1 = .int .i64 a ∧ e 2 = .int .i64 m ∧ e 3 = .int .i64 b ∧ e 4 = .fn (.func cf) [] [capA ps] ∧ e 18 = .int .i64 mid ∧ e 19 = .int .i64 nn ∧ e 20 = .int .i64 i ∧ e 21 = .int .i64 j ∧ e 22 = .int .i64 p ∧ k = j - i ∧ cutSQ le X Y a m nn lo hi i j ∧ H' = H) (hi - lo) ?_ ?_
  · exact ⟨lo, hi, by simp, by simp, by simp, by simp, by simp, by simp, by simp, by first | (simp; done) | (simp; omega), by first | (simp; done) | (simp; omega), by simp, rfl, ⟨by omega, by omega, by omega, .inl rfl, .inl rfl⟩, rfl⟩
  rintro k e H' ⟨i, j, h0, h1, h2, h3, h4, h18, h19, h20, h21, h22, rfl, hcut, rfl⟩
  by_cases hlt : i < j
  · obtain ⟨hci, _, hcj, hc1, hc2⟩ := hcut
    obtain ⟨ij, hij⟩ : ∃ ij, ij = i + j := ⟨_, rfl⟩
    have u1 : IntKind.i64.wrap ((i : Int) + j) = (ij : Int) := by rw [wrap_i64 (by omega) (by omega)]; omega
    obtain ⟨h, hh⟩ : ∃ h, h = ij / 2 := ⟨_, rfl⟩
    have u2 := half_wrapQ (p := ij) (h := h) (by omega) hh
    obtain ⟨g, hg⟩ : ∃ g, g + h = p := ⟨p - h, by omega⟩
    have u3 : IntKind.i64.wrap ((p : Int) - h) = (g : Int) := by rw [wrap_i64 (by omega) (by omega)]; omega
    have u4 : IntKind.i64.wrap ((h : Int) + 1) = ((h + 1 : Nat) : Int) := by rw [wrap_i64 (by omega) (by omega)]; omega
    obtain ⟨q, hq⟩ : ∃ q, h = a + q := ⟨h - a, by omega⟩
    obtain ⟨t, ht⟩ : ∃ t, g = m + t := ⟨g - m, by omega⟩
    have hqX : q < X.length := by omega
    have htY : t < Y.length := by omega
    have b1 : h < n := by omega
    have b2 : g < n := by omega
    have g1 : ∀ k, L[h]'k = X[q] := fun k => by subst hq; exact hLx q hqX k
    have g2 : ∀ k, L[g]'k = Y[t] := fun k => by subst ht; exact hLy t htY k
    have kc := hC.cmp Y[t] X[q] (hok _ (List.mem_append_right _ (List.getElem_mem htY))) (hok _ (List.mem_append_left _ (List.getElem_mem hqX)))
    have hlk := hC.link X[q] Y[t] (hbf _ (List.getElem_mem hqX) _ (List.getElem_mem htY))
    simp [h0, h1, h2, h3, h4, h18, h19, h20, h21, h22, hlt, u1, u2, u3, hr, hLl, g1, g2, b1, b2]
    refine TDK.callW kc (Dws.self (by simp)) ?_
    by_cases hcc : c Y[t] X[q] < 0
    · have hle := hlk.1 hcc
      simp [h0, h1, h2, h3, h4, h18, h19, h20, h21, h22, hlt, u1, u2, u3, hr, hLl, g1, g2, b1, b2, hcc]
      refine ⟨h - i, by omega, i, rfl, h, rfl, rfl, by omega, by omega, by omega, hc1, .inr fun q' t' hq' ht' e1 e2 => ?_⟩
      obtain rfl : q' = q := by omega
      obtain rfl : t' = t := by omega
      exact hle
    · have hle : le X[q] Y[t] := Classical.byContradiction fun h2 => hcc (hlk.2 h2)
      have hcc' : 0 ≤ c Y[t] X[q] := by omega
      simp [h0, h1, h2, h3, h4, h18, h19, h20, h21, h22, hlt, u1, u2, u3, hr, hLl, g1, g2, b1, b2, hcc, hcc']
      refine ⟨j - (h + 1), by omega, h + 1, u4, j, rfl, rfl, by omega, by omega, by omega, .inr fun q' t' hq' ht' e1 e2 => ?_, hc2⟩
      obtain rfl : q' = q := by omega
      obtain rfl : t' = t := by omega
      exact hle
  · obtain rfl : i = j := by have := hcut.2.1; omega
    obtain ⟨t1, t2, t3, t4, t5, t6⟩ := cut_partsQ hC (by omega) hb (by omega) (by omega) hmid hnn hlo hhi hX hY hcut
    obtain ⟨en, hen⟩ : ∃ en, en = nn - i := ⟨_, rfl⟩
    rw [← hen] at t3 t4 t5 t6
    have u1 : IntKind.i64.wrap ((nn : Int) - i) = (en : Int) := by rw [wrap_i64 (by omega) (by omega)]; omega
    obtain ⟨X1, hX1⟩ : ∃ Z, Z = X.take (i - a) := ⟨_, rfl⟩
    obtain ⟨X2, hX2⟩ : ∃ Z, Z = X.drop (i - a) := ⟨_, rfl⟩
    obtain ⟨Y1, hY1⟩ : ∃ Z, Z = Y.take (en - m) := ⟨_, rfl⟩
    obtain ⟨Y2, hY2⟩ : ∃ Z, Z = Y.drop (en - m) := ⟨_, rfl⟩
    have hXe : X = X1 ++ X2 := by rw [hX1, hX2, List.take_append_drop]
    have hYe : Y = Y1 ++ Y2 := by rw [hY1, hY2, List.take_append_drop]
    have lX1 : a + X1.length = i := by rw [hX1, List.length_take]; omega
    have lX2 : i + X2.length = m := by rw [hX2, List.length_drop]; omega
    have lY1 : m + Y1.length = en := by rw [hY1, List.length_take]; omega
    have lY2 : en + Y2.length = b := by rw [hY2, List.length_drop]; omega
    rw [← hX1, ← hY2] at t5
    rw [← hY1, ← hX2] at t6
    have hfin : ∀ Z1 Z2 : List Int, Z1.Perm (X1 ++ Y1) → Z1.Pairwise le → Z2.Perm (X2 ++ Y2) → Z2.Pairwise le → symKQ H' r n le P X Y Q (.tup []) (H'.set r (.row n 1 (avs rwAQ (P ++ Z1 ++ Z2 ++ Q)))) := fun Z1 Z2 p1 s1 p2 s2 => sym_finQ hXe hYe hX hY t5 t6 p1 s1 p2 s2
    have hXp := hX
    have hYp := hY
    rw [hXe, List.pairwise_append] at hXp
    rw [hYe, List.pairwise_append] at hYp
    have hok1 : ∀ z, z ∈ X1 ++ Y1 → ok z := fun z hz => hok z (by rw [hXe, hYe]; rw [List.mem_append] at hz; rcases hz with hz | hz <;> simp [hz])
    have hok2 : ∀ z, z ∈ X2 ++ Y2 → ok z := fun z hz => hok z (by rw [hXe, hYe]; rw [List.mem_append] at hz; rcases hz with hz | hz <;> simp [hz])
    have hbf1 : ∀ x, x ∈ X1 → ∀ y, y ∈ Y1 → bf x y := fun x hx y hy => hbf x (by rw [hXe]; simp [hx]) y (by rw [hYe]; simp [hy])
    have hbf2 : ∀ x, x ∈ X2 → ∀ y, y ∈ Y2 → bf x y := fun x hx y hy => hbf x (by rw [hXe]; simp [hx]) y (by rw [hYe]; simp [hy])
    obtain ⟨N1, N2, N3, N4, N5⟩ := sym_numsQ (k := k) hmid hnn hen lX1 lX2 lY1 lY2 (by omega) (by omega)
    have hz1 : ((P ++ X1) ++ X2 ++ Y1 ++ (Y2 ++ Q)).length = n := by rw [← hLl, hL, hXe, hYe]; simp
    have hz2 : (P ++ X1).length = i := by rw [List.length_append, ha]; exact lX1
    have hz3 : (P ++ X1).length + X2.length = m := by rw [hz2]; exact lX2
    have hz4 : (P ++ X1).length + X2.length + Y1.length = en := by rw [hz3]; exact lY1
    have hz5 : i < m → 0 < X2.length := fun h => nz_ofQ lX2 h
    have hz6 : m < en → 0 < Y1.length := fun h => nz_ofQ lY1 h
    have hz7 : (P ++ X1 ++ Y1 ++ (X2 ++ Y2 ++ Q)).length = n := by rw [← hz1]; simp only [List.length_append]; ac_rfl
    have hz8 : P.length + X1.length = i := by rw [ha]; exact lX1
    have hz9 : a < i → 0 < X1.length := fun h => nz_ofQ lX1 h
    have hz10 : i < mid → 0 < Y1.length := fun h => nz_ofQ N3 h
    have hz11 : mid < en → 0 < X2.length := fun h => nz_ofQ N4 h
    have hz12 : en < b → 0 < Y2.length := fun h => nz_ofQ lY2 h
    have hy1n : en ≤ m → Y1 = [] := fun h => nil_atQ lY1 h
    have hy1m : mid ≤ i → Y1 = [] := fun h => nil_atQ N3 h
    have hy2n : b ≤ en → Y2 = [] := fun h => nil_atQ lY2 h
    have hx2n : ¬ i < m → X2 = [] := fun h => nil_atQ lX2 (Nat.le_of_not_lt h)
    have hx1n : ¬ a < i → X1 = [] := fun h => nil_atQ lX1 (Nat.le_of_not_lt h)
    have hx2m : ¬ mid < en → X2 = [] := fun h => nil_atQ N4 (Nat.le_of_not_lt h)
    clear hd1 hd2 w0 w0b w1 w2 w3 w4 hcs hlo hhi hmid hnn hp hab hdx hdy hLx hLy hx1 hy1 hcut hl
    generalize hK0 : symKQ H' r n le P X Y Q = K0 at *
    simp [h0, h1, h2, h3, h4, h18, h19, h20, h21, h22, u1]
    refine condK_of (fun q1 => ?_) (fun q1 => ?_)
    all_goals
      simp at q1
      first
      | have q1' := q1.1
        have kr := S_rotateQ H' r n (.fn (.func cf) [] [capA ps]) (P ++ X1) X2 Y1 (Y2 ++ Q) i m en hz1 hz2 hz3 hz4 (hz5 q1.1) (hz6 q1.2) (by rw [hr, hL, hXe, hYe]; simp) h1k
        simp [h0, h1, h2, h3, h4, h18, h19, h20, h21, h22, u1]
        refine TS.pt kr ?_
        have hr1 : (H'.set r (.row n 1 (avs rwAQ (P ++ X1 ++ Y1 ++ X2 ++ (Y2 ++ Q)))))[r]? = some (.row n 1 (avs rwAQ (P ++ X1 ++ Y1 ++ (X2 ++ Y2 ++ Q)))) := by rw [List.getElem?_set_self hrl]; simp
        have hs1 : ∀ z, (H'.set r (.row n 1 (avs rwAQ (P ++ X1 ++ Y1 ++ X2 ++ (Y2 ++ Q))))).set r z = H'.set r z := fun z => by simp
        generalize H'.set r (.row n 1 (avs rwAQ (P ++ X1 ++ Y1 ++ X2 ++ (Y2 ++ Q)))) = H1 at *
        have hl1 := (List.getElem?_eq_some_iff.1 hr1).1
        simp [h0, h1, h2, h3, h4, h18, h19, h20, h21, h22, u1]
      | have e1 : P ++ X1 ++ Y1 ++ (X2 ++ Y2 ++ Q) = L := by
          rw [hL, hXe, hYe]
          by_cases hc : i < m
          · have : Y1 = [] := hy1n (q1 hc)
            rw [this]; simp
          · have : X2 = [] := hx2n hc
            rw [this]; simp
        have hr1 : H'[r]? = some (.row n 1 (avs rwAQ (P ++ X1 ++ Y1 ++ (X2 ++ Y2 ++ Q)))) := by rw [e1]; exact hr
        obtain ⟨H1, hH1⟩ : ∃ H1, H1 = H' := ⟨_, rfl⟩
        have hs1 : ∀ z, H1.set r z = H'.set r z := fun z => by rw [hH1]
        rw [← hH1] at hr1 ⊢
        have hl1 := (List.getElem?_eq_some_iff.1 hr1).1
        simp [h0, h1, h2, h3, h4, h18, h19, h20, h21, h22, u1]
      refine condK_of (fun q2 => ?_) (fun q2 => ?_)
    all_goals
      simp at q2
      first
      | have q2' := q2.1
        have k2 := ih H1 P X1 Y1 (X2 ++ Y2 ++ Q) a i mid N1 hz7 ha hz8 N3 (hz9 q2.1) (hz10 q2.2) hr1 hok1 hbf1 hXp.1 hYp.1
        simp [h0, h1, h2, h3, h4, h18, h19, h20, h21, h22, u1]
        refine k2.mono ?_
        rintro _ _ ⟨rfl, Z1, p1, s1, rfl⟩
        rw [hs1]
        have hr2 : (H'.set r (.row n 1 (avs rwAQ (P ++ Z1 ++ (X2 ++ Y2 ++ Q)))))[r]? = some (.row n 1 (avs rwAQ (P ++ Z1 ++ X2 ++ Y2 ++ Q))) := by rw [List.getElem?_set_self hrl]; simp
        have hs2 : ∀ z, (H'.set r (.row n 1 (avs rwAQ (P ++ Z1 ++ (X2 ++ Y2 ++ Q))))).set r z = H'.set r z := fun z => by simp
        have hst : H'.set r (.row n 1 (avs rwAQ (P ++ Z1 ++ (X2 ++ Y2 ++ Q)))) = H'.set r (.row n 1 (avs rwAQ (P ++ Z1 ++ X2 ++ Y2 ++ Q))) := by simp
        generalize H'.set r (.row n 1 (avs rwAQ (P ++ Z1 ++ (X2 ++ Y2 ++ Q)))) = H2 at *
        simp [h0, h1, h2, h3, h4, h18, h19, h20, h21, h22, u1]
      | obtain ⟨Z1, hZ1⟩ : ∃ Z1, Z1 = X1 ++ Y1 := ⟨_, rfl⟩
        have p1 : Z1.Perm (X1 ++ Y1) := by rw [hZ1]
        have s1 : Z1.Pairwise le := by
          by_cases hc : a < i
          · have : Y1 = [] := hy1m (q2 hc)
            rw [hZ1, this, List.append_nil]; exact hXp.1
          · have : X1 = [] := hx1n hc
            rw [hZ1, this]; exact hYp.1
        have hr2 : H1[r]? = some (.row n 1 (avs rwAQ (P ++ Z1 ++ X2 ++ Y2 ++ Q))) := by rw [hr1, hZ1]; simp
        obtain ⟨H2, hH2⟩ : ∃ H2, H2 = H1 := ⟨_, rfl⟩
        have hs2 : ∀ z, H2.set r z = H'.set r z := fun z => by rw [hH2]; exact hs1 z
        have hst : H2 = H'.set r (.row n 1 (avs rwAQ (P ++ Z1 ++ X2 ++ Y2 ++ Q))) := by
          rw [← hs1, hH2]
          have : H1[r] = .row n 1 (avs rwAQ (P ++ Z1 ++ X2 ++ Y2 ++ Q)) := by rw [List.getElem?_eq_getElem hl1] at hr2; exact Option.some.inj hr2
          rw [← this, List.set_getElem_self]
        rw [← hH2] at hr2 ⊢
        simp [h0, h1, h2, h3, h4, h18, h19, h20, h21, h22, u1]
      refine condK_of (fun q3 => ?_) (fun q3 => ?_)
    all_goals
      simp at q3
      have hZl : Z1.length = X1.length + Y1.length := by rw [p1.length_eq]; simp
      first
      | have q3' := q3.1
        have k3 := ih H2 (P ++ Z1) X2 Y2 Q mid en b N2 (by rw [← hz7]; simp only [List.length_append, hZl]; ac_rfl) (by rw [List.length_append, hZl, ha]; exact N5) (by rw [List.length_append, hZl, ha, N5]; exact N4) lY2 (hz11 q3.1) (hz12 q3.2) hr2 hok2 hbf2 hXp.2.1 hYp.2.1
        simp [h0, h1, h2, h3, h4, h18, h19, h20, h21, h22, u1]
        refine k3.mono ?_
        rintro _ _ ⟨rfl, Z2, p2, s2, rfl⟩
        rw [hs2]
        have := hfin Z1 Z2 p1 s1 p2 s2
        simp [h0, h1, h2, h3, h4, h18, h19, h20, h21, h22, u1]
        simpa using this
      | have s2 : (X2 ++ Y2).Pairwise le := by
          by_cases hc : mid < en
          · have : Y2 = [] := hy2n (q3 hc)
            rw [this, List.append_nil]; exact hXp.2.1
          · have : X2 = [] := hx2m hc
            rw [this]; exact hYp.2.1
        have := hfin Z1 (X2 ++ Y2) p1 s1 (List.Perm.refl _) s2
        simp [h0, h1, h2, h3, h4, h18, h19, h20, h21, h22, u1]
        rw [hst]
        simpa using this
end Go.Proofs.YtjplcdeaedflpaaGreatDoor.PL
namespace Go.Proofs.YtjplcdeaedflpaaGreatDoor.PL
open Go.Proofs
set_option linter.unusedVariables false
set_option linter.unusedSimpArgs false
set_option maxHeartbeats 4000000 in
theorem S_symBQ {cf : FuncId} {ps : List Int} {c : Int → Int → Int} {le bf : Int → Int → Prop} {ok : Int → Prop} (hC : Cmp3Q cf ps c le bf ok) (r n : Nat) (h1k : n ≤ 1000) (k : Nat) (ih : SymIHQ cf ps le bf ok r n k) (H : List HO) (P X Y Q : List Int) (a m b : Nat) (hk : X.length + Y.length ≤ k + 1) (hn : (P ++ X ++ Y ++ Q).length = n) (ha : P.length = a) (hm : P.length + X.length = m) (hb : m + Y.length = b) (hX0 : 0 < X.length) (hY0 : 0 < Y.length) (hr : H[r]? = some (.row n 1 (avs rwAQ (P ++ X ++ Y ++ Q))))
    (hok : ∀ z, z ∈ X ++ Y → ok z) (hbf : ∀ x, x ∈ X → ∀ y, y ∈ Y → bf x y) (hX : X.Pairwise le) (hY : Y.Pairwise le) (hx1 : ¬ X.length = 1) (hy1 : ¬ Y.length = 1) (hcase : ¬ (a + b) / 2 < m) :
    TS Tryz.prog 158 [.mv r n 1 0 n, .int .i64 a, .int .i64 m, .int .i64 b, .fn (.func cf) [] [capA ps]] H (symKQ H r n le P X Y Q) := by
  have hl : P.length + X.length + Y.length + Q.length = n := by rw [← hn]; simp; omega
  have hrl := (List.getElem?_eq_some_iff.1 hr).1
  obtain ⟨dx, hdx⟩ : ∃ d, d = X.length := ⟨_, rfl⟩
  obtain ⟨dy, hdy⟩ : ∃ d, d = Y.length := ⟨_, rfl⟩
  obtain ⟨mid, hmid⟩ : ∃ mid, mid = (a + b) / 2 := ⟨_, rfl⟩
  rw [← hmid] at hcase
  obtain ⟨ab, hab⟩ : ∃ ab, ab = a + b := ⟨_, rfl⟩
  obtain ⟨nn, hnn⟩ : ∃ nn, nn = mid + m := ⟨_, rfl⟩
  obtain ⟨p, hp⟩ : ∃ p, nn = p + 1 := ⟨nn - 1, by omega⟩
  obtain ⟨lo, hlo⟩ : ∃ lo, lo = if mid < m then nn - b else a := ⟨_, rfl⟩
  obtain ⟨hi, hhi⟩ : ∃ hi, hi = if mid < m then mid else m := ⟨_, rfl⟩
  have hcs : (mid < m ∧ lo + b = nn ∧ hi = mid) ∨ (¬ mid < m ∧ lo = a ∧ hi = m) := by
    by_cases hc : mid < m
    · left; rw [if_pos hc] at hlo hhi; exact ⟨hc, by omega, hhi⟩
    · right; rw [if_neg hc] at hlo hhi; exact ⟨hc, hlo, hhi⟩
  have w0 : IntKind.i64.wrap ((m : Int) - a) = (dx : Int) := by rw [wrap_i64 (by omega) (by omega)]; omega
  have w0b : IntKind.i64.wrap ((b : Int) - m) = (dy : Int) := by rw [wrap_i64 (by omega) (by omega)]; omega
  have hd1 : ¬ (dx : Int) = 1 := by omega
  have hd2 : ¬ (dy : Int) = 1 := by omega
  have w1 : IntKind.i64.wrap ((a : Int) + b) = (ab : Int) := by rw [wrap_i64 (by omega) (by omega)]; omega
  have w2 := half_wrapQ (p := ab) (h := mid) (by omega) (by omega)
  have w3 : IntKind.i64.wrap ((mid : Int) + m) = (nn : Int) := by rw [wrap_i64 (by omega) (by omega)]; omega
  have w4 : IntKind.i64.wrap ((nn : Int) - 1) = (p : Int) := by rw [wrap_i64 (by omega) (by omega)]; omega
  obtain ⟨L, hL⟩ : ∃ L, L = P ++ X ++ Y ++ Q := ⟨_, rfl⟩
  have hLl : L.length = n := by rw [hL]; exact hn
  have hLx : ∀ q (h : q < X.length) k, L[a + q]'k = X[q] := fun q h k => by
    have : L[a + q]? = some X[q] := by
      rw [hL, List.append_assoc, List.append_assoc, List.getElem?_append_right (by omega), show a + q - P.length = q by omega, List.getElem?_append_left h, List.getElem?_eq_getElem h]
    rw [List.getElem?_eq_getElem k] at this; exact Option.some.inj this
  have hLy : ∀ q (h : q < Y.length) k, L[m + q]'k = Y[q] := fun q h k => by
    have : L[m + q]? = some Y[q] := by
      rw [hL, List.append_assoc, List.getElem?_append_right (by simp; omega)]
      simp
      rw [List.getElem?_append_left (by omega), show m + q - (P.length + X.length) = q by omega, List.getElem?_eq_getElem h]
    rw [List.getElem?_eq_getElem k] at this; exact Option.some.inj this
  rw [← hL] at hr
  refine TS.body mix Tryz.func158 (by kernel_rfl) rfl (by kernel_rfl) (by simp) ?_
  simp [w0, w0b, hd1, hd2, w1, w2, w3, hcase]
  simp [w4]
  refine vc_loop (fun k : Nat => k) (fun k e H' => ∃ (i j : Nat), e 0 = .mv r n 1 0 n ∧ e 1 = .int .i64 a ∧ e 2 = .int .i64 m ∧ e 3 = .int .i64 b ∧ e 4 = .fn (.func cf) [] [capA ps] ∧ e 18 = .int .i64 mid ∧ e 19 = .int .i64 nn ∧ e 20 = .int .i64 i ∧ e 21 = .int .i64 j ∧ e 22 = .int .i64 p ∧ k = j - i ∧ cutSQ le X Y a m nn lo hi i j ∧ H' = H) (hi - lo) ?_ ?_
  · exact ⟨lo, hi, by simp, by simp, by simp, by simp, by simp, by simp, by simp, by first | (simp; done) | (simp; omega), by first | (simp; done) | (simp; omega), by simp, rfl, ⟨by omega, by omega, by omega, .inl rfl, .inl rfl⟩, rfl⟩
  rintro k e H' ⟨i, j, h0, h1, h2, h3, h4, h18, h19, h20, h21, h22, rfl, hcut, rfl⟩
  by_cases hlt : i < j
  · obtain ⟨hci, _, hcj, hc1, hc2⟩ := hcut
    obtain ⟨ij, hij⟩ : ∃ ij, ij = i + j := ⟨_, rfl⟩
    have u1 : IntKind.i64.wrap ((i : Int) + j) = (ij : Int) := by rw [wrap_i64 (by omega) (by omega)]; omega
    obtain ⟨h, hh⟩ : ∃ h, h = ij / 2 := ⟨_, rfl⟩
    have u2 := half_wrapQ (p := ij) (h := h) (by omega) hh
    obtain ⟨g, hg⟩ : ∃ g, g + h = p := ⟨p - h, by omega⟩
    have u3 : IntKind.i64.wrap ((p : Int) - h) = (g : Int) := by rw [wrap_i64 (by omega) (by omega)]; omega
    have u4 : IntKind.i64.wrap ((h : Int) + 1) = ((h + 1 : Nat) : Int) := by rw [wrap_i64 (by omega) (by omega)]; omega
    obtain ⟨q, hq⟩ : ∃ q, h = a + q := ⟨h - a, by omega⟩
    obtain ⟨t, ht⟩ : ∃ t, g = m + t := ⟨g - m, by omega⟩
    have hqX : q < X.length := by omega
    have htY : t < Y.length := by omega
    have b1 : h < n := by omega
    have b2 : g < n := by omega
    have g1 : ∀ k, L[h]'k = X[q] := fun k => by subst hq; exact hLx q hqX k
    have g2 : ∀ k, L[g]'k = Y[t] := fun k => by subst ht; exact hLy t htY k
    have kc := hC.cmp Y[t] X[q] (hok _ (List.mem_append_right _ (List.getElem_mem htY))) (hok _ (List.mem_append_left _ (List.getElem_mem hqX)))
    have hlk := hC.link X[q] Y[t] (hbf _ (List.getElem_mem hqX) _ (List.getElem_mem htY))
    simp [h0, h1, h2, h3, h4, h18, h19, h20, h21, h22, hlt, u1, u2, u3, hr, hLl, g1, g2, b1, b2]
    refine TDK.callW kc (Dws.self (by simp)) ?_
    by_cases hcc : c Y[t] X[q] < 0
    · have hle := hlk.1 hcc
      simp [h0, h1, h2, h3, h4, h18, h19, h20, h21, h22, hlt, u1, u2, u3, hr, hLl, g1, g2, b1, b2, hcc]
      refine ⟨h - i, by omega, i, rfl, h, rfl, rfl, by omega, by omega, by omega, hc1, .inr fun q' t' hq' ht' e1 e2 => ?_⟩
      obtain rfl : q' = q := by omega
      obtain rfl : t' = t := by omega
      exact hle
    · have hle : le X[q] Y[t] := Classical.byContradiction fun h2 => hcc (hlk.2 h2)
      have hcc' : 0 ≤ c Y[t] X[q] := by omega
      simp [h0, h1, h2, h3, h4, h18, h19, h20, h21, h22, hlt, u1, u2, u3, hr, hLl, g1, g2, b1, b2, hcc, hcc']
      refine ⟨j - (h + 1), by omega, h + 1, u4, j, rfl, rfl, by omega, by omega, by omega, .inr fun q' t' hq' ht' e1 e2 => ?_, hc2⟩
      obtain rfl : q' = q := by omega
      obtain rfl : t' = t := by omega
      exact hle
  · obtain rfl : i = j := by have := hcut.2.1; omega
    obtain ⟨t1, t2, t3, t4, t5, t6⟩ := cut_partsQ hC (by omega) hb (by omega) (by omega) hmid hnn hlo hhi hX hY hcut
    obtain ⟨en, hen⟩ : ∃ en, en = nn - i := ⟨_, rfl⟩
    rw [← hen] at t3 t4 t5 t6
    have u1 : IntKind.i64.wrap ((nn : Int) - i) = (en : Int) := by rw [wrap_i64 (by omega) (by omega)]; omega
    obtain ⟨X1, hX1⟩ : ∃ Z, Z = X.take (i - a) := ⟨_, rfl⟩
    obtain ⟨X2, hX2⟩ : ∃ Z, Z = X.drop (i - a) := ⟨_, rfl⟩
    obtain ⟨Y1, hY1⟩ : ∃ Z, Z = Y.take (en - m) := ⟨_, rfl⟩
    obtain ⟨Y2, hY2⟩ : ∃ Z, Z = Y.drop (en - m) := ⟨_, rfl⟩
    have hXe : X = X1 ++ X2 := by rw [hX1, hX2, List.take_append_drop]
    have hYe : Y = Y1 ++ Y2 := by rw [hY1, hY2, List.take_append_drop]
    have lX1 : a + X1.length = i := by rw [hX1, List.length_take]; omega
    have lX2 : i + X2.length = m := by rw [hX2, List.length_drop]; omega
    have lY1 : m + Y1.length = en := by rw [hY1, List.length_take]; omega
    have lY2 : en + Y2.length = b := by rw [hY2, List.length_drop]; omega
    rw [← hX1, ← hY2] at t5
    rw [← hY1, ← hX2] at t6
    have hfin : ∀ Z1 Z2 : List Int, Z1.Perm (X1 ++ Y1) → Z1.Pairwise le → Z2.Perm (X2 ++ Y2) → Z2.Pairwise le → symKQ H' r n le P X Y Q (.tup []) (H'.set r (.row n 1 (avs rwAQ (P ++ Z1 ++ Z2 ++ Q)))) := fun Z1 Z2 p1 s1 p2 s2 => sym_finQ hXe hYe hX hY t5 t6 p1 s1 p2 s2
    have hXp := hX
    have hYp := hY
    rw [hXe, List.pairwise_append] at hXp
    rw [hYe, List.pairwise_append] at hYp
    have hok1 : ∀ z, z ∈ X1 ++ Y1 → ok z := fun z hz => hok z (by rw [hXe, hYe]; rw [List.mem_append] at hz; rcases hz with hz | hz <;> simp [hz])
    have hok2 : ∀ z, z ∈ X2 ++ Y2 → ok z := fun z hz => hok z (by rw [hXe, hYe]; rw [List.mem_append] at hz; rcases hz with hz | hz <;> simp [hz])
    have hbf1 : ∀ x, x ∈ X1 → ∀ y, y ∈ Y1 → bf x y := fun x hx y hy => hbf x (by rw [hXe]; simp [hx]) y (by rw [hYe]; simp [hy])
    have hbf2 : ∀ x, x ∈ X2 → ∀ y, y ∈ Y2 → bf x y := fun x hx y hy => hbf x (by rw [hXe]; simp [hx]) y (by rw [hYe]; simp [hy])
    obtain ⟨N1, N2, N3, N4, N5⟩ := sym_numsQ (k := k) hmid hnn hen lX1 lX2 lY1 lY2 (by omega) (by omega)
    have hz1 : ((P ++ X1) ++ X2 ++ Y1 ++ (Y2 ++ Q)).length = n := by rw [← hLl, hL, hXe, hYe]; simp
    have hz2 : (P ++ X1).length = i := by rw [List.length_append, ha]; exact lX1
    have hz3 : (P ++ X1).length + X2.length = m := by rw [hz2]; exact lX2
    have hz4 : (P ++ X1).length + X2.length + Y1.length = en := by rw [hz3]; exact lY1
    have hz5 : i < m → 0 < X2.length := fun h => nz_ofQ lX2 h
    have hz6 : m < en → 0 < Y1.length := fun h => nz_ofQ lY1 h
    have hz7 : (P ++ X1 ++ Y1 ++ (X2 ++ Y2 ++ Q)).length = n := by rw [← hz1]; simp only [List.length_append]; ac_rfl
    have hz8 : P.length + X1.length = i := by rw [ha]; exact lX1
    have hz9 : a < i → 0 < X1.length := fun h => nz_ofQ lX1 h
    have hz10 : i < mid → 0 < Y1.length := fun h => nz_ofQ N3 h
    have hz11 : mid < en → 0 < X2.length := fun h => nz_ofQ N4 h
    have hz12 : en < b → 0 < Y2.length := fun h => nz_ofQ lY2 h
    have hy1n : en ≤ m → Y1 = [] := fun h => nil_atQ lY1 h
    have hy1m : mid ≤ i → Y1 = [] := fun h => nil_atQ N3 h
    have hy2n : b ≤ en → Y2 = [] := fun h => nil_atQ lY2 h
    have hx2n : ¬ i < m → X2 = [] := fun h => nil_atQ lX2 (Nat.le_of_not_lt h)
    have hx1n : ¬ a < i → X1 = [] := fun h => nil_atQ lX1 (Nat.le_of_not_lt h)
    have hx2m : ¬ mid < en → X2 = [] := fun h => nil_atQ N4 (Nat.le_of_not_lt h)
    clear hd1 hd2 w0 w0b w1 w2 w3 w4 hcs hlo hhi hmid hnn hp hab hdx hdy hLx hLy hx1 hy1 hcut hl
    generalize hK0 : symKQ H' r n le P X Y Q = K0 at *
    simp [h0, h1, h2, h3, h4, h18, h19, h20, h21, h22, u1]
    refine condK_of (fun q1 => ?_) (fun q1 => ?_)
    all_goals
      simp at q1
      first
      | have q1' := q1.1
        have kr := S_rotateQ H' r n (.fn (.func cf) [] [capA ps]) (P ++ X1) X2 Y1 (Y2 ++ Q) i m en hz1 hz2 hz3 hz4 (hz5 q1.1) (hz6 q1.2) (by rw [hr, hL, hXe, hYe]; simp) h1k
        simp [h0, h1, h2, h3, h4, h18, h19, h20, h21, h22, u1]
        refine TS.pt kr ?_
        have hr1 : (H'.set r (.row n 1 (avs rwAQ (P ++ X1 ++ Y1 ++ X2 ++ (Y2 ++ Q)))))[r]? = some (.row n 1 (avs rwAQ (P ++ X1 ++ Y1 ++ (X2 ++ Y2 ++ Q)))) := by rw [List.getElem?_set_self hrl]; simp
        have hs1 : ∀ z, (H'.set r (.row n 1 (avs rwAQ (P ++ X1 ++ Y1 ++ X2 ++ (Y2 ++ Q))))).set r z = H'.set r z := fun z => by simp
        generalize H'.set r (.row n 1 (avs rwAQ (P ++ X1 ++ Y1 ++ X2 ++ (Y2 ++ Q)))) = H1 at *
        have hl1 := (List.getElem?_eq_some_iff.1 hr1).1
        simp [h0, h1, h2, h3, h4, h18, h19, h20, h21, h22, u1]
      | have e1 : P ++ X1 ++ Y1 ++ (X2 ++ Y2 ++ Q) = L := by
          rw [hL, hXe, hYe]
          by_cases hc : i < m
          · have : Y1 = [] := hy1n (q1 hc)
            rw [this]; simp
          · have : X2 = [] := hx2n hc
            rw [this]; simp
        have hr1 : H'[r]? = some (.row n 1 (avs rwAQ (P ++ X1 ++ Y1 ++ (X2 ++ Y2 ++ Q)))) := by rw [e1]; exact hr
        obtain ⟨H1, hH1⟩ : ∃ H1, H1 = H' := ⟨_, rfl⟩
        have hs1 : ∀ z, H1.set r z = H'.set r z := fun z => by rw [hH1]
        rw [← hH1] at hr1 ⊢
        have hl1 := (List.getElem?_eq_some_iff.1 hr1).1
        simp [h0, h1, h2, h3, h4, h18, h19, h20, h21, h22, u1]
      refine condK_of (fun q2 => ?_) (fun q2 => ?_)
    all_goals
      simp at q2
      first
      | have q2' := q2.1
        have k2 := ih H1 P X1 Y1 (X2 ++ Y2 ++ Q) a i mid N1 hz7 ha hz8 N3 (hz9 q2.1) (hz10 q2.2) hr1 hok1 hbf1 hXp.1 hYp.1
        simp [h0, h1, h2, h3, h4, h18, h19, h20, h21, h22, u1]
        refine k2.mono ?_
        rintro _ _ ⟨rfl, Z1, p1, s1, rfl⟩
        rw [hs1]
        have hr2 : (H'.set r (.row n 1 (avs rwAQ (P ++ Z1 ++ (X2 ++ Y2 ++ Q)))))[r]? = some (.row n 1 (avs rwAQ (P ++ Z1 ++ X2 ++ Y2 ++ Q))) := by rw [List.getElem?_set_self hrl]; simp
        have hs2 : ∀ z, (H'.set r (.row n 1 (avs rwAQ (P ++ Z1 ++ (X2 ++ Y2 ++ Q))))).set r z = H'.set r z := fun z => by simp
        have hst : H'.set r (.row n 1 (avs rwAQ (P ++ Z1 ++ (X2 ++ Y2 ++ Q)))) = H'.set r (.row n 1 (avs rwAQ (P ++ Z1 ++ X2 ++ Y2 ++ Q))) := by simp
        generalize H'.set r (.row n 1 (avs rwAQ (P ++ Z1 ++ (X2 ++ Y2 ++ Q)))) = H2 at *
        simp [h0, h1, h2, h3, h4, h18, h19, h20, h21, h22, u1]
      | obtain ⟨Z1, hZ1⟩ : ∃ Z1, Z1 = X1 ++ Y1 := ⟨_, rfl⟩
        have p1 : Z1.Perm (X1 ++ Y1) := by rw [hZ1]
        have s1 : Z1.Pairwise le := by
          by_cases hc : a < i
          · have : Y1 = [] := hy1m (q2 hc)
            rw [hZ1, this, List.append_nil]; exact hXp.1
          · have : X1 = [] := hx1n hc
            rw [hZ1, this]; exact hYp.1
        have hr2 : H1[r]? = some (.row n 1 (avs rwAQ (P ++ Z1 ++ X2 ++ Y2 ++ Q))) := by rw [hr1, hZ1]; simp
        obtain ⟨H2, hH2⟩ : ∃ H2, H2 = H1 := ⟨_, rfl⟩
        have hs2 : ∀ z, H2.set r z = H'.set r z := fun z => by rw [hH2]; exact hs1 z
        have hst : H2 = H'.set r (.row n 1 (avs rwAQ (P ++ Z1 ++ X2 ++ Y2 ++ Q))) := by
          rw [← hs1, hH2]
          have : H1[r] = .row n 1 (avs rwAQ (P ++ Z1 ++ X2 ++ Y2 ++ Q)) := by rw [List.getElem?_eq_getElem hl1] at hr2; exact Option.some.inj hr2
          rw [← this, List.set_getElem_self]
        rw [← hH2] at hr2 ⊢
        simp [h0, h1, h2, h3, h4, h18, h19, h20, h21, h22, u1]
      refine condK_of (fun q3 => ?_) (fun q3 => ?_)
    all_goals
      simp at q3
      have hZl : Z1.length = X1.length + Y1.length := by rw [p1.length_eq]; simp
      first
      | have q3' := q3.1
        have k3 := ih H2 (P ++ Z1) X2 Y2 Q mid en b N2 (by rw [← hz7]; simp only [List.length_append, hZl]; ac_rfl) (by rw [List.length_append, hZl, ha]; exact N5) (by rw [List.length_append, hZl, ha, N5]; exact N4) lY2 (hz11 q3.1) (hz12 q3.2) hr2 hok2 hbf2 hXp.2.1 hYp.2.1
        simp [h0, h1, h2, h3, h4, h18, h19, h20, h21, h22, u1]
        refine k3.mono ?_
        rintro _ _ ⟨rfl, Z2, p2, s2, rfl⟩
        rw [hs2]
        have := hfin Z1 Z2 p1 s1 p2 s2
        simp [h0, h1, h2, h3, h4, h18, h19, h20, h21, h22, u1]
        simpa using this
      | have s2 : (X2 ++ Y2).Pairwise le := by
          by_cases hc : mid < en
          · have : Y2 = [] := hy2n (q3 hc)
            rw [this, List.append_nil]; exact hXp.2.1
          · have : X2 = [] := hx2m hc
            rw [this]; exact hYp.2.1
        have := hfin Z1 (X2 ++ Y2) p1 s1 (List.Perm.refl _) s2
        simp [h0, h1, h2, h3, h4, h18, h19, h20, h21, h22, u1]
        rw [hst]
        simpa using this
theorem S_symQ {cf : FuncId} {ps : List Int} {c : Int → Int → Int} {le bf : Int → Int → Prop} {ok : Int → Prop} (hC : Cmp3Q cf ps c le bf ok) (r n : Nat) (h1k : n ≤ 1000) : ∀ (k : Nat), SymIHQ cf ps le bf ok r n k := by
  intro k
  induction k with
  | zero => intro H P X Y Q a m b hk _ _ _ _ hx; omega
  | succ k ih =>
  intro H P X Y Q a m b hk hn ha hm hb hX0 hY0 hr hok hbf hX hY
  have hl : P.length + X.length + Y.length + Q.length = n := by rw [← hn]; simp; omega
  by_cases hx1 : X.length = 1
  · obtain ⟨x, rfl⟩ := List.length_eq_one_iff.1 hx1
    exact S_sym1Q hC H r n P x Y Q a m b hn ha (by simpa using hm) (by simp at hm; omega) hr h1k (fun z hz => hok z (by simpa using hz)) (fun y hy => hbf x (by simp) y hy) hY
  by_cases hy1 : Y.length = 1
  · obtain ⟨y, rfl⟩ := List.length_eq_one_iff.1 hy1
    exact S_sym2Q hC H r n P X y Q a m b hn ha hm (by simpa using hb) (by omega) hr h1k hok (fun x hx => hbf x hx y (by simp)) hX
  by_cases hcase : (a + b) / 2 < m
  · exact S_symAQ hC r n h1k k ih H P X Y Q a m b hk hn ha hm hb hX0 hY0 hr hok hbf hX hY hx1 hy1 hcase
  · exact S_symBQ hC r n h1k k ih H P X Y Q a m b hk hn ha hm hb hX0 hY0 hr hok hbf hX hY hx1 hy1 hcase
end Go.Proofs.YtjplcdeaedflpaaGreatDoor.PL
namespace Go.Proofs.YtjplcdeaedflpaaGreatDoor.PL
open Go.Proofs
set_option linter.unusedVariables false
set_option linter.unusedSimpArgs false
def insIQ (le : Int → Int → Prop) (P X Q : List Int) (t : Nat) (L : List Int) : Prop := ∃ Z : List Int, Z.Perm (X.take t) ∧ Z.Pairwise le ∧ L = P ++ Z ++ X.drop t ++ Q
def insKQ (H : List HO) (r n : Nat) (le : Int → Int → Prop) (P X Q : List Int) (x : AV) (H' : List HO) : Prop := x = .tup [] ∧ ∃ Z : List Int, Z.Perm X ∧ Z.Pairwise le ∧ H' = H.set r (.row n 1 (avs rwAQ (P ++ Z ++ Q)))
theorem ins_nextQ {le bf : Int → Int → Prop} {cf : FuncId} {ps : List Int} {c : Int → Int → Int} {ok : Int → Prop} (hC : Cmp3Q cf ps c le bf ok) {P X Q Z : List Int} {t s : Nat} {x : Int} (ht : t < X.length) (hx : X[t] = x) (hp : Z.Perm (X.take t)) (hs : Z.Pairwise le) (hd : ∀ z, z ∈ Z.drop s → ¬ le z x) (htk : ∀ z, z ∈ Z.take s → le z x) :
    insIQ le P X Q (t + 1) (P ++ (Z.take s ++ x :: Z.drop s) ++ X.drop (t + 1) ++ Q) := by
  refine ⟨Z.take s ++ x :: Z.drop s, ?_, ?_, rfl⟩
  · refine List.Perm.trans List.perm_middle ?_
    rw [List.take_append_drop, take_next ht, hx]
    exact (hp.cons x).trans (List.perm_append_comm (l₁ := [x]))
  · have hsp : (Z.take s ++ Z.drop s).Pairwise le := by rw [List.take_append_drop]; exact hs
    rw [List.pairwise_append] at hsp ⊢
    refine ⟨hsp.1, List.pairwise_cons.2 ⟨fun y hy => hC.total _ _ (hd y hy), hsp.2.1⟩, fun y hy z hz => ?_⟩
    rw [List.mem_cons] at hz
    rcases hz with rfl | hz
    · exact htk y hy
    · exact hsp.2.2 y hy z hz
set_option maxHeartbeats 2000000 in
theorem S_insQ {cf : FuncId} {ps : List Int} {c : Int → Int → Int} {le bf : Int → Int → Prop} {ok : Int → Prop} (hC : Cmp3Q cf ps c le bf ok) (H : List HO) (r n : Nat) (P X Q : List Int) (a b : Nat) (hn : (P ++ X ++ Q).length = n) (ha : P.length = a) (hb : a + X.length = b) (hr : H[r]? = some (.row n 1 (avs rwAQ (P ++ X ++ Q)))) (h1k : n ≤ 1000)
    (hok : ∀ z, z ∈ X → ok z) (hbf : X.Pairwise bf) :
    TS Tryz.prog 157 [.mv r n 1 0 n, .int .i64 a, .int .i64 b, .fn (.func cf) [] [capA ps]] H (insKQ H r n le P X Q) := by
  have hrl := (List.getElem?_eq_some_iff.1 hr).1
  have hl : P.length + X.length + Q.length = n := by rw [← hn]; simp; omega
  have h00 : H = H.set r (.row n 1 (avs rwAQ (P ++ X ++ Q))) := by
    have : H[r] = .row n 1 (avs rwAQ (P ++ X ++ Q)) := by rw [List.getElem?_eq_getElem hrl] at hr; exact Option.some.inj hr
    rw [← this, List.set_getElem_self]
  have hst : insIQ le P X Q 1 (P ++ X ++ Q) := by
    refine ⟨X.take 1, List.Perm.refl _, ?_, by rw [List.append_assoc P (X.take 1), List.take_append_drop]⟩
    cases X with
    | nil => simp
    | cons x X => simp
  refine TS.body mix Tryz.func157 (by kernel_rfl) rfl (by kernel_rfl) (by simp) ?_
  have w0 := wrap_next (i := a) (n := n + 1) (by omega) (by omega)
  simp [w0]
  refine vc_loop (fun k : Nat => X.length + 1 - k) (fun t e H' => ∃ L : List Int, e 0 = .mv r n 1 0 n ∧ e 1 = .int .i64 a ∧ e 2 = .int .i64 b ∧ e 3 = .fn (.func cf) [] [capA ps] ∧ e 8 = .int .i64 (a + t : Nat) ∧ 1 ≤ t ∧ t ≤ X.length + 1 ∧ insIQ le P X Q t L ∧ H' = H.set r (.row n 1 (avs rwAQ L))) 1 ?_ ?_
  · exact ⟨_, by simp, by simp, by simp, by simp, by simp, by omega, by omega, hst, h00⟩
  rintro t e H' ⟨L, h0, h1, h2, h3, h8, ht1, ht, ⟨Z, hZp, hZs, hL⟩, rfl⟩
  obtain ⟨i, hi⟩ : ∃ i, i = a + t := ⟨_, rfl⟩
  rw [← hi] at h8
  by_cases hlt : i < b
  · have htX : t < X.length := by omega
    obtain ⟨x, hx⟩ : ∃ x, X[t] = x := ⟨_, rfl⟩
    have hZl : Z.length = t := by rw [hZp.length_eq, List.length_take]; omega
    have hstart : L = P ++ (Z.take Z.length ++ x :: Z.drop Z.length) ++ X.drop (t + 1) ++ Q := by
      rw [hL, List.drop_eq_getElem_cons htX, hx]; simp
    have hxb : ∀ z, z ∈ Z → bf z x := fun z hz => by
      have hz' := hZp.mem_iff.1 hz
      obtain ⟨q, hq, rfl⟩ := List.mem_take_iff_getElem.1 hz'
      rw [← hx]
      exact List.pairwise_iff_getElem.1 hbf q t (by omega) htX (by omega)
    have hZs2 : ∀ q q', q < q' → ∀ (h : q < Z.length) (h' : q' < Z.length), le Z[q] Z[q'] := fun q q' hq h h' => List.pairwise_iff_getElem.1 hZs q q' h h' hq
    have hxok : ok x := hok _ (by rw [← hx]; exact List.getElem_mem htX)
    have hzok : ∀ z, z ∈ Z → ok z := fun z hz => hok z (List.mem_of_mem_take (hZp.mem_iff.1 hz))
    simp [h0, h1, h2, h3, h8, hlt]
    refine vc_loop (fun k : Nat => k) (fun s e H2 => e 0 = .mv r n 1 0 n ∧ e 1 = .int .i64 a ∧ e 2 = .int .i64 b ∧ e 3 = .fn (.func cf) [] [capA ps] ∧ e 8 = .int .i64 i ∧ e 9 = .int .i64 (a + s : Nat) ∧ s ≤ Z.length ∧ (∀ z, z ∈ Z.drop s → ¬ le z x) ∧ H2 = H.set r (.row n 1 (avs rwAQ (P ++ (Z.take s ++ x :: Z.drop s) ++ X.drop (t + 1) ++ Q)))) Z.length ?_ ?_
    · exact ⟨by simp [h0], by simp [h1], by simp [h2], by simp [h3], by simp [h8], by simp; omega, by omega, by simp, by rw [← hstart]⟩
    clear h0 h1 h2 h3 h8 e
    rintro s e H2 ⟨h0, h1, h2, h3, h8, h9, hsZ, hd, rfl⟩
    obtain ⟨p, hp⟩ : ∃ p, p = a + s := ⟨_, rfl⟩
    rw [← hp] at h9
    have hll : (P ++ (Z.take s ++ x :: Z.drop s) ++ X.drop (t + 1) ++ Q).length = n := by simp; omega
    have ewi : IntKind.i64.wrap ((i : Int) + 1) = ((i + 1 : Nat) : Int) := by rw [wrap_i64 (by omega) (by omega)]; omega
    by_cases hs0 : s = 0
    · subst hs0
      have hc : ¬ a < p := by omega
      have hb2 : p < n := by omega
      have hnx := ins_nextQ hC (P := P) (Q := Q) (s := 0) htX hx hZp hZs hd (by simp)
      simp [h0, h1, h2, h3, h8, h9, hc, hll, hb2, hrl]
      refine GTK.callW (fun h => nomatch h) (ys := []) (r := .int .i64 0) ?_
      simp [h0, h1, h2, h3, h8, h9, hc, hll, hb2, hrl]
      refine ⟨t + 1, by omega, by rw [ewi]; omega, by omega, by omega, _, hnx, ?_⟩
      simp
      done
    · obtain ⟨s1, hs1⟩ : ∃ s1, s = s1 + 1 := ⟨s - 1, by omega⟩
      subst hs1
      have hsZ1 : s1 < Z.length := by omega
      obtain ⟨z, hz⟩ : ∃ z, Z[s1] = z := ⟨_, rfl⟩
      have hzm : z ∈ Z := by rw [← hz]; exact List.getElem_mem hsZ1
      obtain ⟨q, hq⟩ : ∃ q, p = q + 1 := ⟨p - 1, by omega⟩
      have w5 : IntKind.i64.wrap ((p : Int) - 1) = (q : Int) := by rw [wrap_i64 (by omega) (by omega)]; omega
      have hsh : P ++ (Z.take (s1 + 1) ++ x :: Z.drop (s1 + 1)) ++ X.drop (t + 1) ++ Q = (P ++ Z.take s1) ++ z :: ([] ++ x :: (Z.drop (s1 + 1) ++ X.drop (t + 1) ++ Q)) := by
        rw [take_next hsZ1, hz]; simp
      have hA : (P ++ Z.take s1).length = q := by simp; omega
      have hB : (P ++ Z.take s1).length + 1 + ([] : List Int).length = p := by rw [hA]; simp; omega
      have hsw := swap_twoQ (P ++ Z.take s1) [] (Z.drop (s1 + 1) ++ X.drop (t + 1) ++ Q) z x
      rw [hB, hA, ← hsh] at hsw
      have hnx : P ++ (Z.take s1 ++ x :: Z.drop s1) ++ X.drop (t + 1) ++ Q = (P ++ Z.take s1) ++ x :: ([] ++ z :: (Z.drop (s1 + 1) ++ X.drop (t + 1) ++ Q)) := by
        rw [List.drop_eq_getElem_cons hsZ1, hz]; simp
      rw [← hnx] at hsw
      have g1 : ∀ k, (P ++ (Z.take (s1 + 1) ++ x :: Z.drop (s1 + 1)) ++ X.drop (t + 1) ++ Q)[q]'k = z := fun k => by
        have : (P ++ (Z.take (s1 + 1) ++ x :: Z.drop (s1 + 1)) ++ X.drop (t + 1) ++ Q)[q]? = some z := by rw [hsh, ← hA]; simp
        rw [List.getElem?_eq_getElem k] at this; exact Option.some.inj this
      have g2 : ∀ k, (P ++ (Z.take (s1 + 1) ++ x :: Z.drop (s1 + 1)) ++ X.drop (t + 1) ++ Q)[p]'k = x := fun k => by
        have : (P ++ (Z.take (s1 + 1) ++ x :: Z.drop (s1 + 1)) ++ X.drop (t + 1) ++ Q)[p]? = some x := by rw [hsh, ← hB, List.getElem?_append_right (by omega), show (P ++ Z.take s1).length + 1 + ([] : List Int).length - (P ++ Z.take s1).length = 1 by simp]; simp
        rw [List.getElem?_eq_getElem k] at this; exact Option.some.inj this
      have kc := hC.cmp x z hxok (hzok z hzm)
      have hlk := hC.link z x (hxb z hzm)
      have b1 : p < n := by omega
      have b2 : q < n := by omega
      have hc : a < p := by omega
      have hstop : ¬ c x z < 0 → insIQ le P X Q (t + 1) (P ++ (Z.take (s1 + 1) ++ x :: Z.drop (s1 + 1)) ++ X.drop (t + 1) ++ Q) := fun hcc => by
        have hle : le z x := Classical.byContradiction fun h2 => hcc (hlk.2 h2)
        refine ins_nextQ hC htX hx hZp hZs hd fun w hw => ?_
        obtain ⟨u, hu, rfl⟩ := List.mem_take_iff_getElem.1 hw
        by_cases hus : u = s1
        · subst hus; rw [hz]; exact hle
        · exact hC.trans _ _ _ (hZs2 u s1 (by omega) (by omega) hsZ1) (by rw [hz]; exact hle)
      have hgo : c x z < 0 → ∀ w, w ∈ Z.drop s1 → ¬ le w x := fun hcc w hw => by
        rw [List.drop_eq_getElem_cons hsZ1, List.mem_cons] at hw
        rcases hw with rfl | hw
        · rw [hz]; exact hlk.1 hcc
        · exact hd w hw
      generalize P ++ (Z.take (s1 + 1) ++ x :: Z.drop (s1 + 1)) ++ X.drop (t + 1) ++ Q = K at *
      simp [h0, h1, h2, h3, h8, h9, hc, hll, b1, b2, hrl, g1, g2, w5]
      refine GTK.callW (fun _ => ⟨kc, Dws.self (by simp)⟩) ?_
      by_cases hcc : c x z < 0
      · simp [h0, h1, h2, h3, h8, h9, hc, hll, b1, b2, hrl, g1, g2, w5, hcc]
        refine ⟨by omega, by omega, s1, by omega, by omega, by omega, hgo hcc, ?_⟩
        rw [setIQ (show p < K.length by omega), setIQ (show q < (K.set p z).length by rw [List.length_set]; omega), List.set_comm _ _ (by omega), hsw]
        simp
      · simp [h0, h1, h2, h3, h8, h9, hc, hll, b1, b2, hrl, g1, g2, w5, hcc]
        exact ⟨t + 1, by omega, by rw [ewi]; omega, by omega, by omega, _, hstop hcc, rfl⟩
  · simp [h0, h1, h2, h3, h8, hlt]
    refine ⟨rfl, Z, ?_, hZs, ?_⟩
    · rw [List.take_of_length_le (by omega)] at hZp
      exact hZp
    · rw [hL, List.drop_of_length_le (by omega)]
      simp
def stblKQ (H : List HO) (r n : Nat) (le : Int → Int → Prop) (l : List Int) (x : AV) (H' : List HO) : Prop := x = .tup [] ∧ ∃ Z : List Int, Z.Perm l ∧ Z.Pairwise le ∧ H' = H.set r (.row n 1 (avs rwAQ Z))
theorem pw_bfQ {bf : Int → Int → Prop} {A B A' B' : List Int} (h : (A ++ B).Pairwise bf) (pa : A'.Perm A) (pb : B'.Perm B) : ∀ x, x ∈ A' → ∀ y, y ∈ B' → bf x y := fun x hx y hy => (List.pairwise_append.1 h).2.2 x (pa.mem_iff.1 hx) y (pb.mem_iff.1 hy)
theorem S_stab1Q {cf : FuncId} {ps : List Int} {c : Int → Int → Int} {le bf : Int → Int → Prop} {ok : Int → Prop} (hC : Cmp3Q cf ps c le bf ok) (H : List HO) (r n : Nat) (l : List Int) (hn : l.length = n) (hr : H[r]? = some (.row n 1 (avs rwAQ l))) (hok : ∀ z, z ∈ l → ok z) (hbf : l.Pairwise bf) (hlt : n < 20) :
    TS Tryz.prog 135 [.mv r n 1 0 n, .int .i64 n, .fn (.func cf) [] [capA ps]] H (stblKQ H r n le l) := by
  have k1 := S_insQ hC H r n [] l [] 0 n (by simpa using hn) rfl (by simpa using hn) (by simpa using hr) (by omega) hok hbf
  have c1 : ¬ (20 : Int) ≤ n := by omega
  have c2 : ¬ (20 : Int) < n := by omega
  refine TS.body mix Tryz.func135 (by kernel_rfl) rfl (by kernel_rfl) (by simp) ?_
  simp
  refine vc_rnds 1 ?_
  simp [c1]
  refine TS.mono k1 ?_
  rintro _ _ ⟨rfl, Z, hp, hs, rfl⟩
  simp
  refine vc_rnds 1 ?_
  simp [c2]
  exact ⟨rfl, Z, by simpa using hp, hs, by simp⟩
set_option maxHeartbeats 2000000 in
theorem S_stab2Q {cf : FuncId} {ps : List Int} {c : Int → Int → Int} {le bf : Int → Int → Prop} {ok : Int → Prop} (hC : Cmp3Q cf ps c le bf ok) (H : List HO) (r n : Nat) (A B : List Int) (hn : (A ++ B).length = n) (hA : A.length = 20) (hB : B.length < 20) (hr : H[r]? = some (.row n 1 (avs rwAQ (A ++ B)))) (hok : ∀ z, z ∈ A ++ B → ok z) (hbf : (A ++ B).Pairwise bf) :
    TS Tryz.prog 135 [.mv r n 1 0 n, .int .i64 n, .fn (.func cf) [] [capA ps]] H (stblKQ H r n le (A ++ B)) := by
  have hrl := (List.getElem?_eq_some_iff.1 hr).1
  have hl : 20 + B.length = n := by rw [← hn, ← hA]; simp
  have hbf2 := List.pairwise_append.1 hbf
  have k1 := S_insQ hC H r n [] A B 0 20 (by simpa using hn) rfl (by omega) (by simpa using hr) (by omega) (fun z hz => hok z (by simp [hz])) hbf2.1
  have c1 : (20 : Int) ≤ n := by omega
  have c3 : ¬ (40 : Int) ≤ n := by omega
  have w1 : IntKind.i64.wrap (20 + 20) = 40 := by decide
  refine TS.body mix Tryz.func135 (by kernel_rfl) rfl (by kernel_rfl) (by simp) ?_
  simp
  refine vc_rnds 2 ?_
  simp [c1]
  refine TS.mono k1 ?_
  rintro _ _ ⟨rfl, Z, hp, hs, rfl⟩
  have hZl : Z.length = 20 := by rw [hp.length_eq, hA]
  simp [c1, w1]
  refine rnds.next ?_
  simp [c3]
  have k2 := S_insQ hC (H.set r (.row n 1 (avs rwAQ (Z ++ B)))) r n Z B [] 20 n (by simp; omega) hZl (by omega) (by rw [List.getElem?_set_self hrl]; simp) (by omega) (fun z hz => hok z (by simp [hz])) hbf2.2.1
  refine TS.mono k2 ?_
  rintro _ _ ⟨rfl, W, hp2, hs2, rfl⟩
  have hWl : W.length = B.length := by rw [hp2.length_eq]
  simp
  by_cases hB0 : B.length = 0
  · have c2 : ¬ (20 : Int) < n := by omega
    have hW0 : W = [] := List.eq_nil_of_length_eq_zero (by omega)
    have hBn : B = [] := List.eq_nil_of_length_eq_zero hB0
    refine vc_rnds 1 ?_
    simp [c2]
    exact ⟨rfl, Z, by rw [hBn, List.append_nil]; exact hp, hs, by rw [hW0]; simp⟩
  · have c2 : (20 : Int) < n := by omega
    have k3 := S_symQ hC r n (by omega) (Z.length + W.length) (H.set r (.row n 1 (avs rwAQ (Z ++ W)))) [] Z W [] 0 20 n (Nat.le_refl _) (by simp; omega) rfl (by simp; omega) (by omega) (by omega) (by omega) (by rw [List.getElem?_set_self hrl]; simp) (fun z hz => hok z ((hp.append hp2).mem_iff.1 hz)) (pw_bfQ hbf hp hp2) hs hs2
    have w2 : IntKind.i64.wrap (2 * 20) = 40 := by decide
    have w3 : IntKind.i64.wrap (0 + 20) = 20 := by decide
    have w4 : IntKind.i64.wrap (20 * 2) = 40 := by decide
    have c4 : ¬ (40 : Int) < n := by omega
    refine vc_rnds 2 ?_
    simp [c2, w2]
    refine vc_rnds 1 ?_
    simp [c3, c2, w3]
    refine TS.mono k3 ?_
    rintro _ _ ⟨rfl, V, hp3, hs3, rfl⟩
    simp [c2, w4]
    refine rnds.next ?_
    simp [c4]
    exact ⟨rfl, V, hp3.trans (hp.append hp2), hs3, by simp⟩
set_option maxHeartbeats 2000000 in
theorem S_stab3Q {cf : FuncId} {ps : List Int} {c : Int → Int → Int} {le bf : Int → Int → Prop} {ok : Int → Prop} (hC : Cmp3Q cf ps c le bf ok) (H : List HO) (r n : Nat) (A B C : List Int) (hn : (A ++ B ++ C).length = n) (hA : A.length = 20) (hB : B.length = 20) (hCl : C.length < 20) (hr : H[r]? = some (.row n 1 (avs rwAQ (A ++ B ++ C)))) (hok : ∀ z, z ∈ A ++ B ++ C → ok z) (hbf : (A ++ B ++ C).Pairwise bf) :
    TS Tryz.prog 135 [.mv r n 1 0 n, .int .i64 n, .fn (.func cf) [] [capA ps]] H (stblKQ H r n le (A ++ B ++ C)) := by
  have hrl := (List.getElem?_eq_some_iff.1 hr).1
  have hl : 40 + C.length = n := by rw [← hn]; simp; omega
  have hbf2 := List.pairwise_append.1 hbf
  have hbf3 := List.pairwise_append.1 hbf2.1
  have k1 := S_insQ hC H r n [] A (B ++ C) 0 20 (by simpa using hn) rfl (by omega) (by simpa using hr) (by omega) (fun z hz => hok z (by simp [hz])) hbf3.1
  have c1 : (20 : Int) ≤ n := by omega
  have c2 : (40 : Int) ≤ n := by omega
  have c3 : ¬ (60 : Int) ≤ n := by omega
  have w1 : IntKind.i64.wrap (20 + 20) = 40 := by decide
  have w1b : IntKind.i64.wrap (40 + 20) = 60 := by decide
  refine TS.body mix Tryz.func135 (by kernel_rfl) rfl (by kernel_rfl) (by simp) ?_
  simp
  refine vc_rnds 3 ?_
  simp [c1]
  refine TS.mono k1 ?_
  rintro _ _ ⟨rfl, Z, hp, hs, rfl⟩
  have hZl : Z.length = 20 := by rw [hp.length_eq, hA]
  simp [c1, w1]
  refine rnds.next ?_
  simp [c2]
  have k2 := S_insQ hC (H.set r (.row n 1 (avs rwAQ (Z ++ (B ++ C))))) r n Z B C 20 40 (by simp; omega) hZl (by omega) (by rw [List.getElem?_set_self hrl]; simp) (by omega) (fun z hz => hok z (by simp [hz])) hbf3.2.1
  refine TS.mono k2 ?_
  rintro _ _ ⟨rfl, W, hp2, hs2, rfl⟩
  have hWl : W.length = 20 := by rw [hp2.length_eq, hB]
  simp [c2, w1b]
  refine rnds.next ?_
  simp [c3]
  have k3 := S_insQ hC (H.set r (.row n 1 (avs rwAQ (Z ++ (W ++ C))))) r n (Z ++ W) C [] 40 n (by simp; omega) (by simp; omega) (by omega) (by rw [List.getElem?_set_self hrl]; simp) (by omega) (fun z hz => hok z (by simp [hz])) hbf2.2.1
  refine TS.mono k3 ?_
  rintro _ _ ⟨rfl, V, hp3, hs3, rfl⟩
  have hVl : V.length = C.length := by rw [hp3.length_eq]
  have k4 := S_symQ hC r n (by omega) (Z.length + W.length) (H.set r (.row n 1 (avs rwAQ (Z ++ (W ++ V))))) [] Z W V 0 20 40 (Nat.le_refl _) (by simp; omega) rfl (by simp; omega) (by omega) (by omega) (by omega) (by rw [List.getElem?_set_self hrl]; simp) (fun z hz => hok z (by rw [List.append_assoc] at *; rw [List.mem_append] at hz ⊢; rcases hz with hz | hz; exact .inl (hp.mem_iff.1 hz); exact .inr (List.mem_append_left _ (hp2.mem_iff.1 hz)))) (pw_bfQ hbf2.1 hp hp2) hs hs2
  have d1 : (20 : Int) < n := by omega
  have d2 : ¬ (80 : Int) ≤ n := by omega
  have d3 : ¬ (60 : Int) < n := by omega
  have d4 : ¬ (80 : Int) < n := by omega
  have w2 : IntKind.i64.wrap (2 * 20) = 40 := by decide
  have w3 : IntKind.i64.wrap (0 + 20) = 20 := by decide
  have w4 : IntKind.i64.wrap (20 * 2) = 40 := by decide
  have w5 : IntKind.i64.wrap (2 * 40) = 80 := by decide
  have w6 : IntKind.i64.wrap (40 + 40) = 80 := by decide
  have w7 : IntKind.i64.wrap (0 + 40) = 40 := by decide
  have w8 : IntKind.i64.wrap (40 * 2) = 80 := by decide
  simp
  refine vc_rnds 3 ?_
  simp [d1, w2]
  refine vc_rnds 2 ?_
  simp [c2, w3]
  refine TS.mono k4 ?_
  rintro _ _ ⟨rfl, U, hp4, hs4, rfl⟩
  have hUl : U.length = 40 := by rw [hp4.length_eq, List.length_append]; omega
  have hpU : U.Perm (A ++ B) := hp4.trans (hp.append hp2)
  simp [w2, w6]
  refine rnds.next ?_
  simp [d2, w1b, d3, w4]
  refine rnds.next ?_
  by_cases hC0 : C.length = 0
  · have d5 : ¬ (40 : Int) < n := by omega
    have hV0 : V = [] := List.eq_nil_of_length_eq_zero (by omega)
    have hCn : C = [] := List.eq_nil_of_length_eq_zero hC0
    simp [d5]
    exact ⟨rfl, U, by rw [hCn, List.append_nil]; exact hpU, hs4, by rw [hV0]; simp⟩
  · have d5 : (40 : Int) < n := by omega
    have k5 := S_symQ hC r n (by omega) (U.length + V.length) (H.set r (.row n 1 (avs rwAQ (U ++ V)))) [] U V [] 0 40 n (Nat.le_refl _) (by simp; omega) rfl (by simp; omega) (by omega) (by omega) (by omega) (by rw [List.getElem?_set_self hrl]; simp) (fun z hz => hok z ((hpU.append hp3).mem_iff.1 hz)) (pw_bfQ hbf hpU hp3) hs4 hs3
    simp [d5, w5]
    refine vc_rnds 1 ?_
    simp [d2, w7, d5]
    refine TS.mono k5 ?_
    rintro _ _ ⟨rfl, T, hp5, hs5, rfl⟩
    simp [w8]
    refine rnds.next ?_
    simp [d4]
    exact ⟨rfl, T, hp5.trans (by have := hpU.append hp3; simpa using this), hs5, by simp⟩
theorem S_stabQ {cf : FuncId} {ps : List Int} {c : Int → Int → Int} {le bf : Int → Int → Prop} {ok : Int → Prop} (hC : Cmp3Q cf ps c le bf ok) (H : List HO) (r n : Nat) (l : List Int) (hn : l.length = n) (h60 : n < 60) (hr : H[r]? = some (.row n 1 (avs rwAQ l))) (hok : ∀ z, z ∈ l → ok z) (hbf : l.Pairwise bf) :
    TS Tryz.prog 121 [.mv r n 1 0 n, .fn (.func cf) [] [capA ps]] H (stblKQ H r n le l) := by
  have k : TS Tryz.prog 135 [.mv r n 1 0 n, .int .i64 n, .fn (.func cf) [] [capA ps]] H (stblKQ H r n le l) := by
    by_cases h1 : n < 20
    · exact S_stab1Q hC H r n l hn hr hok hbf h1
    by_cases h2 : n < 40
    · have e : l = l.take 20 ++ l.drop 20 := (List.take_append_drop 20 l).symm
      rw [e] at hn hr hok hbf ⊢
      exact S_stab2Q hC H r n _ _ hn (by rw [List.length_take]; rw [← e] at hn; omega) (by rw [List.length_drop]; rw [← e] at hn; omega) hr hok hbf
    · have e : l = l.take 20 ++ (l.drop 20).take 20 ++ l.drop 40 := by rw [List.append_assoc, show l.drop 40 = (l.drop 20).drop 20 by rw [List.drop_drop], List.take_append_drop, List.take_append_drop]
      rw [e] at hn hr hok hbf ⊢
      have hn' : l.length = n := by rw [e]; exact hn
      exact S_stab3Q hC H r n _ _ _ hn (by rw [List.length_take]; omega) (by rw [List.length_take, List.length_drop]; omega) (by rw [List.length_drop]; omega) hr hok hbf
  refine TS.body mix Tryz.func121 (by kernel_rfl) rfl (by kernel_rfl) (by simp) ?_
  simp
  refine TS.mono k ?_
  rintro _ _ ⟨rfl, Z, h1, h2, rfl⟩
  simp
  exact ⟨rfl, Z, h1, h2, rfl⟩
end Go.Proofs.YtjplcdeaedflpaaGreatDoor.PL
namespace Go.Proofs.YtjplcdeaedflpaaGreatDoor.PL
open Go.Proofs
set_option linter.unusedVariables false
set_option linter.unusedSimpArgs false
/-- how many are on the way up -/
def dpt (ps : List Int) (x : Int) : Nat := (upI ps x).length
def dleP (ps : List Int) (x y : Int) : Prop := dpt ps x < dpt ps y ∨ (dpt ps x = dpt ps y ∧ x ≤ y)
theorem T_down1 (ps : List Int) (x y : Int) (hl : ps.length ≤ 1000000) : T Tryz.prog 122 [.int .i64 x, .int .i64 y, capA ps] (.int .i64 ((dpt ps x : Int) - (dpt ps y : Int))) := by
  have k1 := T_up ps x hl
  have k2 := T_up ps y hl
  have h1 : (upI ps x).length ≤ ps.length := upF_len _ _
  have h2 : (upI ps y).length ≤ ps.length := upF_len _ _
  have ew : IntKind.i64.wrap (((upI ps x).length : Int) - ((upI ps y).length : Int)) = ((upI ps x).length : Int) - ((upI ps y).length : Int) := wrap_i64 (by omega) (by omega)
  refine T.intro (TS.body mix Tryz.func122 (by kernel_rfl) rfl (by kernel_rfl) (by simp) ?_)
  simp
  refine TDK.callW k1 (Dws.self (by simp)) ?_
  simp
  refine TDK.callW k2 (Dws.self (by simp)) ?_
  simp [ew, dpt]
theorem downC (ps : List Int) (hl : ps.length ≤ 1000000) : Cmp3Q 122 ps (fun x y => (dpt ps x : Int) - (dpt ps y : Int)) (dleP ps) (fun x y => x < y) (fun _ => True) :=
  ⟨fun x y _ _ => T_down1 ps x y hl, fun x y z h1 h2 => by unfold dleP at *; omega, fun x y h => by unfold dleP at *; omega, fun x y h => by unfold dleP; omega⟩
/-- numbers up to n -/
def upTo (n : Nat) : List Int := (List.range n).map fun (k : Nat) => (k : Int)
theorem upTo_next (n : Nat) : upTo (n + 1) = upTo n ++ [(n : Int)] := by unfold upTo; rw [List.range_succ, List.map_append]; rfl
theorem upTo_len (n : Nat) : (upTo n).length = n := by simp [upTo]
theorem upTo_pw (n : Nat) : (upTo n).Pairwise fun x y => x < y := by
  unfold upTo
  rw [List.pairwise_map]
  exact List.Pairwise.imp (fun h => by omega) List.pairwise_lt_range
/-- from the root on: by depth, and by number -/
def DownOf (ps Z : List Int) : Prop := Z.Perm (upTo ps.length) ∧ Z.Pairwise (dleP ps)
theorem DownOf.uniq {ps Z W : List Int} (h : DownOf ps Z) (k : DownOf ps W) : Z = W := by
  refine List.Perm.eq_of_pairwise (le := dleP ps) (fun a b _ _ h1 h2 => ?_) h.2 k.2 (h.1.trans k.1.symm)
  unfold dleP at h1 h2
  omega
instance (ps : List Int) (x y : Int) : Decidable (dleP ps x y) := by unfold dleP; exact inferInstance
def downI (ps : List Int) : List Int := (upTo ps.length).mergeSort fun x y => decide (dleP ps x y)
theorem downI_of (ps : List Int) : DownOf ps (downI ps) := by
  refine ⟨List.mergeSort_perm _ _, ?_⟩
  have := List.pairwise_mergeSort (le := fun x y => decide (dleP ps x y)) (fun a b c h1 h2 => by simp only [decide_eq_true_iff] at *; unfold dleP at *; omega) (fun a b => by
    rw [Bool.or_eq_true, decide_eq_true_iff, decide_eq_true_iff]; unfold dleP; omega) (upTo ps.length)
  refine this.imp fun h => ?_
  simpa using h
theorem downI_len (ps : List Int) : (downI ps).length = ps.length := by rw [(downI_of ps).1.length_eq, upTo_len]
theorem S_insNil (H : List HO) (cv : AV) : TS Tryz.prog 157 [.sl .nil [], .int .i64 0, .int .i64 0, cv] H (pt (.tup []) H) := by
  refine TS.body mix Tryz.func157 (by kernel_rfl) rfl (by kernel_rfl) (by simp) ?_
  simp
  refine vc_rnds 1 ?_
  simp
theorem S_stblNil (H : List HO) (cv : AV) : TS Tryz.prog 135 [.sl .nil [], .int .i64 0, cv] H (pt (.tup []) H) := by
  refine TS.body mix Tryz.func135 (by kernel_rfl) rfl (by kernel_rfl) (by simp) ?_
  simp
  refine vc_rnds 1 ?_
  simp
  refine TS.pt (S_insNil H cv) ?_
  simp
  refine vc_rnds 1 ?_
  simp
theorem S_stabNil (H : List HO) (cv : AV) : TS Tryz.prog 121 [.sl .nil [], cv] H (pt (.tup []) H) := by
  refine TS.body mix Tryz.func121 (by kernel_rfl) rfl (by kernel_rfl) (by simp) ?_
  simp
  refine TS.pt (S_stblNil H cv) ?_
  simp
set_option maxRecDepth 4000 in
theorem T_down (ps : List Int) (hl : ps.length < 60) : T Tryz.prog 106 [.sl .no (ints' ps)] (.sl .no (ints' (downI (heldI ps)))) := by
  have kh := T_held ps (by omega)
  have hq := heldI_len ps
  have hdo := downI_of (heldI ps)
  have hdl := downI_len (heldI ps)
  have hC := downC (heldI ps) (by omega)
  generalize downI (heldI ps) = Z at *
  generalize heldI ps = q at *
  refine T.introF (TS.bodyM [15] mix Tryz.func106 (by kernel_rfl) rfl (by kernel_rfl) (by simp) ?_)
  simp
  refine TS.callW kh (Dws.self (by simp)) ?_
  simp
  refine vc_loop (fun i : Nat => q.length - i) (fun i e H => e 1 = .ptr 0 0 ∧ e 8 = .int .i64 q.length ∧ e 9 = .int .i64 i ∧ i ≤ q.length ∧ ((i = 0 ∧ e 3 = .sl .nil [] ∧ H = [.box [.sl .no (ints' q)]]) ∨ (0 < i ∧ e 3 = .mv 1 i 1 0 i ∧ H = [.box [.sl .no (ints' q)], .row i 1 (ints' (upTo i))]))) 0 ?_ ?_
  · simp
  rintro i e H ⟨e1, e8, e9, hi, hc⟩
  by_cases hlt : i < q.length
  · have ew := wrap_next hlt (by omega)
    have hnx := upTo_next i
    rcases hc with ⟨rfl, e3, rfl⟩ | ⟨hp, e3, rfl⟩
    · simp only [Int.natCast_zero] at e9
      simp [e1, e3, e8, e9, hlt]
      exact ⟨1, by omega, by simp, by omega, by omega, rfl, rfl⟩
    · simp [e1, e3, e8, e9, hlt]
      refine ⟨⟨by omega, by omega⟩, i + 1, by omega, ew, by omega, by omega, rfl, ?_⟩
      rw [hnx]
  have hiq : i = q.length := by omega
  rcases hc with ⟨h0, e3, rfl⟩ | ⟨hp, e3, rfl⟩
  · have hZ : Z = [] := List.eq_nil_of_length_eq_zero (by omega)
    subst hZ
    rw [← hiq, h0] at e8
    rw [h0] at e9
    simp only [Int.natCast_zero] at e8 e9
    simp [e1, e3, e8, e9]
    refine TS.pt (S_stabNil _ _) ?_
    simp [e1, e3, e8, e9]
    exact Frz.slN (f := AV.int .i64) (l := [])
  · have e8' : e 8 = .int .i64 (i : Int) := by rw [e8, hiq]
    have ks := S_stabQ hC [.gone, .row i 1 (ints' (upTo i))] 1 i (upTo i) (upTo_len i) (by omega) rfl (fun _ _ => trivial) (upTo_pw i)
    simp [e1, e3, e8', e9]
    refine TS.freeze (i := 0) rfl (.cons (.same _) (.cons (.fn (.cons .ptr .nil)) .nil)) ?_
    simp
    refine TS.mono ks ?_
    rintro _ _ ⟨rfl, W, hW1, hW2, rfl⟩
    have hWZ : W = Z := DownOf.uniq (ps := q) ⟨by rw [← hiq]; exact hW1, hW2⟩ hdo
    subst hWZ
    simp [e1, e3, e8', e9]
    exact Frz.mvA (f := AV.int .i64) (sz := 1) (l := W) (by simp) (by rw [hdl, hiq])
end Go.Proofs.YtjplcdeaedflpaaGreatDoor.PL
namespace Go.Proofs.YtjplcdeaedflpaaGreatDoor.PL
open Go.Proofs
set_option linter.unusedVariables false
set_option linter.unusedSimpArgs false
/-- the way from one to another, as far as both ways up meet -/
def pathQ (x y : List Int) : List Int := match x.findIdx? fun v => decide (v ∈ y) with
  | none => []
  | some i => x.take (i + 1) ++ (y.take (y.findIdx fun v => decide (v = x.getD i 0))).reverse
end Go.Proofs.YtjplcdeaedflpaaGreatDoor.PL
namespace Go.Proofs.YtjplcdeaedflpaaGreatDoor.PL
open Go.Proofs
set_option linter.unusedVariables false
set_option linter.unusedSimpArgs false
def meetI (x y : List Int) : Int := match x.find? (fun v => decide (v ∈ y)) with | some v => v | none => -1
def pathI (ps : List Int) (a b n : Int) : Bool := (decide (n ∈ upI ps a) || decide (n ∈ upI ps b)) && decide (meetI (upI ps a) (upI ps b) ∈ upI ps n)
/-- of the ways between the first nodes and one -/
def joinsP (h : List (List Int)) (ps : List Int) : Prop := ps.length = h.length ∧ treeI ps = true ∧ ∀ a b k : Nat, a < h.length → b < a → k < h.length → pathI ps a b k = true → withinI (sharedI (h.getD a []) (h.getD b [])) (h.getD k []) = true
theorem earF_lt {h : List (List Int)} {left : List Bool} {i p : Nat} (he : earF h left i = some p) : p < h.length ∧ earQ h left i p = true := by
  unfold earF at he
  split at he
  · have h1 := List.find?_some he
    have h2 := List.mem_of_find?_eq_some he
    exact ⟨by simpa using h2, h1⟩
  · cases he
theorem ear1_some {h : List (List Int)} {left : List Bool} {i p : Nat} (he : ear1 h left = some (i, p)) : i < h.length ∧ earF h left i = some p := by
  unfold ear1 at he
  obtain ⟨k, hk, hq⟩ := List.exists_of_findSome?_eq_some he
  cases hr : earF h left k with
  | none => rw [hr] at hq; cases hq
  | some q =>
    rw [hr] at hq
    simp at hq
    obtain ⟨rfl, rfl⟩ := hq
    exact ⟨by simpa using hk, hr⟩
theorem playF_lt {h : List (List Int)} : ∀ (m : Nat) (left : List Bool), ∀ x, x ∈ (playF h m left).1 → x.1 < h.length ∧ x.2 < h.length
  | 0, left, x, hx => by simp [playF] at hx
  | m + 1, left, x, hx => by
    rw [playF] at hx
    cases hq : ear1 h left with
    | none => rw [hq] at hx; simp at hx
    | some y =>
      obtain ⟨i, p⟩ := y
      rw [hq] at hx
      obtain ⟨h1, h2⟩ := ear1_some hq
      rcases List.mem_cons.1 hx with rfl | hx
      · exact ⟨h1, (earF_lt h2).1⟩
      · exact playF_lt m _ x hx
/-- each edge's parent -/
def parF (es : List (Nat × Nat)) (l : List Int) : List Int := es.foldl (fun l e => l.set e.1 (e.2 : Nat)) l
theorem parF_len (es : List (Nat × Nat)) : ∀ l : List Int, (parF es l).length = l.length := by
  induction es with
  | nil => intro l; rfl
  | cons e es ih => intro l; simp only [parF, List.foldl_cons] at *; rw [ih]; simp
theorem parF_snoc (es : List (Nat × Nat)) (e : Nat × Nat) (l : List Int) : parF (es ++ [e]) l = (parF es l).set e.1 (e.2 : Nat) := by
  unfold parF
  rw [List.foldl_append]
  rfl
def parI (h : List (List Int)) : List Int := parF (playI h).1 (List.replicate h.length (-1))
set_option maxRecDepth 4000 in
theorem T_parents (h : List (List Int)) (hh : HsOk h) : T Tryz.prog 42 [.sl .no (lists' h)] (.tup [.sl .no (ints' (if acyI h = true then parI h else [])), .bool (acyI h)]) := by
  have hn := hh.n
  have ka := T_gacyc h hh
  have ke := T_ears h hh
  have kr := S_repeatI [] (-1) h.length (by omega)
  have hlt0 := playF_lt (h := h) h.length (List.replicate h.length true)
  have hpl : playF h h.length (List.replicate h.length true) = playI h := rfl
  rw [hpl] at hlt0
  have hel := (playI_len h).2
  have hpar : parI h = parF (playI h).1 (List.replicate h.length (-1)) := rfl
  generalize parI h = PP at *
  generalize (playI h).1 = es at *
  refine T.introF (TS.body mix Tryz.func42 (by kernel_rfl) rfl (by kernel_rfl) (by simp) ?_)
  simp
  refine TS.callW ka (Dws.self (by simp)) ?_
  cases hac : acyI h with
  | false =>
    simp
    exact .tup (.cons (Frz.slN (f := AV.int .i64) (l := [])) (.cons (.cl (by simp)) .nil))
  | true =>
    simp
    refine TS.pt kr ?_
    simp
    refine TS.callW ke (Dws.self (by simp)) ?_
    simp
    refine vc_loop (fun k : Nat => es.length - k) (fun k e H => ∃ J, e 4 = .mv 0 h.length 1 0 h.length ∧ e 15 = slA earA es ∧ e 16 = .int .i64 es.length ∧ e 17 = .int .i64 k ∧ k ≤ es.length ∧ H = .row h.length 1 (ints' (parF (es.take k) (List.replicate h.length (-1)))) :: J) 0 ?_ ?_
    · refine ⟨[], ?_⟩
      simp [parF]
    rintro k e H ⟨J, e4, e15, e16, e17, hk, rfl⟩
    by_cases hlt : k < es.length
    · have ew := wrap_next hlt (by omega)
      have hb := hlt0 _ (List.getElem_mem hlt)
      have hnx := parF_snoc (es.take k) es[k] (List.replicate h.length (-1))
      rw [← take_next hlt] at hnx
      have hpl := parF_len (es.take k) (List.replicate h.length (-1))
      simp at hpl
      have hc : (earA es[k]).cells = [.int .i64 (es[k].1 : Nat), .int .i64 (es[k].2 : Nat)] := rfl
      simp [e4, e15, e16, e17, hlt, hc]
      refine ⟨hb.1, by omega, k + 1, by omega, ew, by omega, ?_⟩
      rw [hnx, List.set_eq_take_append_cons_drop, if_pos (by omega)]
    · have : k = es.length := by omega
      subst this
      rw [List.take_length, ← hpar]
      simp [e4, e15, e16, e17]
      refine .tup (.cons ?_ (.cons (.cl (by simp)) .nil))
      exact Frz.mvA (f := AV.int .i64) (sz := 1) (l := PP) (by simp) (by rw [hpar, parF_len]; simp)
end Go.Proofs.YtjplcdeaedflpaaGreatDoor.PL
