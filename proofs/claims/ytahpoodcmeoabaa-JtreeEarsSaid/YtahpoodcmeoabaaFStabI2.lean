/- slices.SortStableFunc on numbers: the merge by itself, and all. -/
import Derived.Test.YtahpoodcmeoabaaFStabI
namespace Go.Proofs.Ytahpoodcmeoabaa.PL
open Go.Proofs
set_option linter.unusedVariables false
set_option linter.unusedSimpArgs false
/-- where the search for the cut stands -/
def cutSQ (le : Int → Int → Prop) (X Y : List Int) (a m n lo hi i j : Nat) : Prop :=
  lo ≤ i ∧ i ≤ j ∧ j ≤ hi ∧ (i = lo ∨ ∀ q t (hq : q < X.length) (ht : t < Y.length), a + q + 1 = i → m + t + i = n → le X[q] Y[t]) ∧ (j = hi ∨ ∀ q t (hq : q < X.length) (ht : t < Y.length), a + q = j → m + t + j + 1 = n → ¬ le X[q] Y[t])
/-- the cut, and what it tells -/
theorem cut_partsQ {le bf : Int → Int → Prop} {cf : FuncId} {ps : List Int} {c : Int → Int → Int} {ok : Int → Prop} (hC : Cmp3Q cf ps c le bf ok) {X Y : List Int} {a m b n mid lo hi s : Nat} (hm : a + X.length = m) (hb : m + Y.length = b) (hX0 : 0 < X.length) (hY0 : 0 < Y.length) (hmid : mid = (a + b) / 2) (hn : n = mid + m)
    (hlo : lo = if mid < m then n - b else a) (hhi : hi = if mid < m then mid else m) (hX : X.Pairwise le) (hY : Y.Pairwise le) (h : cutSQ le X Y a m n lo hi s s) :
    a ≤ s ∧ s ≤ m ∧ m ≤ n - s ∧ n - s ≤ b ∧ (∀ x, x ∈ X.take (s - a) → ∀ y, y ∈ Y.drop (n - s - m) → le x y) ∧ (∀ y, y ∈ Y.take (n - s - m) → ∀ x, x ∈ X.drop (s - a) → le y x) := by
  obtain ⟨h1, h2, h3, h4, h5⟩ := h
  have hXs : ∀ q q', q < q' → ∀ (h : q < X.length) (h' : q' < X.length), le X[q] X[q'] := fun q q' hq h h' => List.pairwise_iff_getElem.1 hX q q' h h' hq
  have hYs : ∀ q q', q < q' → ∀ (h : q < Y.length) (h' : q' < Y.length), le Y[q] Y[q'] := fun q q' hq h h' => List.pairwise_iff_getElem.1 hY q q' h h' hq
  have hb1 : a ≤ s ∧ s ≤ m ∧ m ≤ n - s ∧ n - s ≤ b := by
    split at hlo <;> rename_i hc <;> simp only [hc, if_true, if_false] at hhi <;> omega
  refine ⟨hb1.1, hb1.2.1, hb1.2.2.1, hb1.2.2.2, fun x hx y hy => ?_, fun y hy x hx => ?_⟩
  · obtain ⟨q, hq, rfl⟩ := List.mem_take_iff_getElem.1 hx
    obtain ⟨t, ht, rfl⟩ := List.mem_drop_iff_getElem.1 hy
    rcases h4 with e | h4
    · exfalso
      split at hlo <;> omega
    · have k1 : s - a - 1 < X.length := by omega
      have k2 : n - s - m < Y.length := by omega
      have k3 := h4 (s - a - 1) (n - s - m) k1 k2 (by omega) (by omega)
      have k4 : le X[q] Y[n - s - m] := by
        by_cases e : q = s - a - 1
        · subst e; exact k3
        · exact hC.trans _ _ _ (hXs q (s - a - 1) (by omega) (by omega) k1) k3
      by_cases e : t = 0
      · subst e; exact k4
      · exact hC.trans _ _ _ k4 (hYs (n - s - m) (n - s - m + t) (by omega) k2 (by omega))
  · obtain ⟨t, ht, rfl⟩ := List.mem_take_iff_getElem.1 hy
    obtain ⟨q, hq, rfl⟩ := List.mem_drop_iff_getElem.1 hx
    rcases h5 with e | h5
    · exfalso
      split at hhi <;> omega
    · have k1 : s - a < X.length := by omega
      have k2 : n - s - m - 1 < Y.length := by omega
      have k3 := hC.total _ _ (h5 (s - a) (n - s - m - 1) k1 k2 (by omega) (by omega))
      have k4 : le Y[t] X[s - a] := by
        by_cases e : t = n - s - m - 1
        · subst e; exact k3
        · exact hC.trans _ _ _ (hYs t (n - s - m - 1) (by omega) (by omega) k2) k3
      by_cases e : q = 0
      · subst e; exact k4
      · exact hC.trans _ _ _ k4 (hXs (s - a) (s - a + q) (by omega) k1 (by omega))
theorem sym_finQ {le : Int → Int → Prop} {X Y X1 X2 Y1 Y2 Z1 Z2 P Q : List Int} {H : List HO} {r n : Nat} (hXe : X = X1 ++ X2) (hYe : Y = Y1 ++ Y2) (hX : X.Pairwise le) (hY : Y.Pairwise le) (c1 : ∀ x, x ∈ X1 → ∀ y, y ∈ Y2 → le x y) (c2 : ∀ y, y ∈ Y1 → ∀ x, x ∈ X2 → le y x)
    (p1 : Z1.Perm (X1 ++ Y1)) (s1 : Z1.Pairwise le) (p2 : Z2.Perm (X2 ++ Y2)) (s2 : Z2.Pairwise le) : symKQ H r n le P X Y Q (.tup []) (H.set r (.row n 1 (avs rwAQ (P ++ Z1 ++ Z2 ++ Q)))) := by
  subst hXe; subst hYe
  rw [List.pairwise_append] at hX hY
  refine ⟨rfl, Z1 ++ Z2, ?_, ?_, by simp⟩
  · refine (p1.append p2).trans ?_
    have h1 : (X1 ++ Y1 ++ (X2 ++ Y2)).Perm (X1 ++ (X2 ++ Y1) ++ Y2) := by
      have : X1 ++ Y1 ++ (X2 ++ Y2) = X1 ++ (Y1 ++ X2) ++ Y2 := by simp
      rw [this]
      exact ((List.perm_append_comm (l₁ := Y1) (l₂ := X2)).append_left X1).append_right Y2
    have h2 : X1 ++ (X2 ++ Y1) ++ Y2 = X1 ++ X2 ++ (Y1 ++ Y2) := by simp
    rw [h2] at h1
    exact h1
  · rw [List.pairwise_append]
    refine ⟨s1, s2, fun z hz w hw => ?_⟩
    have hz' := p1.mem_iff.1 hz
    have hw' := p2.mem_iff.1 hw
    rw [List.mem_append] at hz' hw'
    rcases hz' with hz' | hz' <;> rcases hw' with hw' | hw'
    · exact hX.2.2 z hz' w hw'
    · exact c1 z hz' w hw'
    · exact c2 z hz' w hw'
    · exact hY.2.2 z hz' w hw'
theorem nz_ofQ {a x i : Nat} (h : a + x = i) (h2 : a < i) : 0 < x := by omega
theorem nil_atQ {α : Type} {l : List α} {a i : Nat} (h : a + l.length = i) (h2 : i ≤ a) : l = [] := List.eq_nil_of_length_eq_zero (by omega)
theorem sym_numsQ {a b m mid nn i en k x1 x2 y1 y2 : Nat} (hmid : mid = (a + b) / 2) (hnn : nn = mid + m) (hen : en = nn - i) (l1 : a + x1 = i) (l2 : i + x2 = m) (l3 : m + y1 = en) (l4 : en + y2 = b) (hk : b ≤ a + (k + 1)) (ha : a + 2 ≤ b) : x1 + y1 ≤ k ∧ x2 + y2 ≤ k ∧ i + y1 = mid ∧ mid + x2 = en ∧ a + (x1 + y1) = mid := by
  have h1 : i + en = nn := by omega
  have h2 : i + y1 = mid := by omega
  refine ⟨by omega, by omega, h2, by omega, by omega⟩
def SymIHQ (cf : FuncId) (ps : List Int) (le bf : Int → Int → Prop) (ok : Int → Prop) (r n k : Nat) : Prop := ∀ (H : List HO) (P X Y Q : List Int) (a m b : Nat), X.length + Y.length ≤ k → (P ++ X ++ Y ++ Q).length = n → P.length = a → P.length + X.length = m → m + Y.length = b → 0 < X.length → 0 < Y.length → H[r]? = some (.row n 1 (avs rwAQ (P ++ X ++ Y ++ Q))) →
    (∀ z, z ∈ X ++ Y → ok z) → (∀ x, x ∈ X → ∀ y, y ∈ Y → bf x y) → X.Pairwise le → Y.Pairwise le →
    TS Try.prog 171 [.mv r n 1 0 n, .int .i64 a, .int .i64 m, .int .i64 b, .fn (.func cf) [] [capA ps]] H (symKQ H r n le P X Y Q)
set_option maxHeartbeats 4000000 in
theorem S_symAQ {cf : FuncId} {ps : List Int} {c : Int → Int → Int} {le bf : Int → Int → Prop} {ok : Int → Prop} (hC : Cmp3Q cf ps c le bf ok) (r n : Nat) (h1k : n ≤ 1000) (k : Nat) (ih : SymIHQ cf ps le bf ok r n k) (H : List HO) (P X Y Q : List Int) (a m b : Nat) (hk : X.length + Y.length ≤ k + 1) (hn : (P ++ X ++ Y ++ Q).length = n) (ha : P.length = a) (hm : P.length + X.length = m) (hb : m + Y.length = b) (hX0 : 0 < X.length) (hY0 : 0 < Y.length) (hr : H[r]? = some (.row n 1 (avs rwAQ (P ++ X ++ Y ++ Q))))
    (hok : ∀ z, z ∈ X ++ Y → ok z) (hbf : ∀ x, x ∈ X → ∀ y, y ∈ Y → bf x y) (hX : X.Pairwise le) (hY : Y.Pairwise le) (hx1 : ¬ X.length = 1) (hy1 : ¬ Y.length = 1) (hcase : (a + b) / 2 < m) :
    TS Try.prog 171 [.mv r n 1 0 n, .int .i64 a, .int .i64 m, .int .i64 b, .fn (.func cf) [] [capA ps]] H (symKQ H r n le P X Y Q) := by
  have hl : P.length + X.length + Y.length + Q.length = n := by rw [← hn]; simp; omega
  have hrl := (List.getElem?_eq_some_iff.1 hr).1
  obtain ⟨dx, hdx⟩ : ∃ d, d = X.length := ⟨_, rfl⟩
  obtain ⟨dy, hdy⟩ : ∃ d, d = Y.length := ⟨_, rfl⟩
  obtain ⟨mid, hmid⟩ : ∃ mid, mid = (a + b) / 2 := ⟨_, rfl⟩
  rw [← hmid] at hcase
  obtain ⟨ab, hab⟩ : ∃ ab, ab = a + b := ⟨_, rfl⟩
  obtain ⟨nn, hnn⟩ : ∃ nn, nn = mid + m := ⟨_, rfl⟩
  obtain ⟨p, hp⟩ : ∃ p, nn = p + 1 := ⟨nn - 1, by omega⟩
  obtain ⟨lo, hlo⟩ : ∃ lo, lo = if mid < m then nn - b else a := ⟨_, rfl⟩
  obtain ⟨hi, hhi⟩ : ∃ hi, hi = if mid < m then mid else m := ⟨_, rfl⟩
  have hcs : (mid < m ∧ lo + b = nn ∧ hi = mid) ∨ (¬ mid < m ∧ lo = a ∧ hi = m) := by
    by_cases hc : mid < m
    · left; rw [if_pos hc] at hlo hhi; exact ⟨hc, by omega, hhi⟩
    · right; rw [if_neg hc] at hlo hhi; exact ⟨hc, hlo, hhi⟩
  have w0 : IntKind.i64.wrap ((m : Int) - a) = (dx : Int) := by rw [wrap_i64 (by omega) (by omega)]; omega
  have w0b : IntKind.i64.wrap ((b : Int) - m) = (dy : Int) := by rw [wrap_i64 (by omega) (by omega)]; omega
  have hd1 : ¬ (dx : Int) = 1 := by omega
  have hd2 : ¬ (dy : Int) = 1 := by omega
  have w1 : IntKind.i64.wrap ((a : Int) + b) = (ab : Int) := by rw [wrap_i64 (by omega) (by omega)]; omega
  have w2 := half_wrapQ (p := ab) (h := mid) (by omega) (by omega)
  have w3 : IntKind.i64.wrap ((mid : Int) + m) = (nn : Int) := by rw [wrap_i64 (by omega) (by omega)]; omega
  have w4 : IntKind.i64.wrap ((nn : Int) - 1) = (p : Int) := by rw [wrap_i64 (by omega) (by omega)]; omega
  obtain ⟨L, hL⟩ : ∃ L, L = P ++ X ++ Y ++ Q := ⟨_, rfl⟩
  have hLl : L.length = n := by rw [hL]; exact hn
  have hLx : ∀ q (h : q < X.length) k, L[a + q]'k = X[q] := fun q h k => by
    have : L[a + q]? = some X[q] := by
      rw [hL, List.append_assoc, List.append_assoc, List.getElem?_append_right (by omega), show a + q - P.length = q by omega, List.getElem?_append_left h, List.getElem?_eq_getElem h]
    rw [List.getElem?_eq_getElem k] at this; exact Option.some.inj this
  have hLy : ∀ q (h : q < Y.length) k, L[m + q]'k = Y[q] := fun q h k => by
    have : L[m + q]? = some Y[q] := by
      rw [hL, List.append_assoc, List.getElem?_append_right (by simp; omega)]
      simp
      rw [List.getElem?_append_left (by omega), show m + q - (P.length + X.length) = q by omega, List.getElem?_eq_getElem h]
    rw [List.getElem?_eq_getElem k] at this; exact Option.some.inj this
  rw [← hL] at hr
  refine TS.body mix Try.func171 (by kernel_rfl) rfl (by kernel_rfl) (by simp) ?_
  simp [w0, w0b, hd1, hd2, w1, w2, w3, hcase]
  have hc : mid < m := hcase
  have w5 : IntKind.i64.wrap ((nn : Int) - b) = (lo : Int) := by rw [wrap_i64 (by omega) (by omega)]; omega
  simp [w5, w4]
  refine vc_loop (fun k : Nat => k) (fun k e H' => ∃ (i j : Nat), e 0 = .mv r n 1 0 n ∧ e 1 = .int .i64 a ∧ e 2 = .int .i64 m ∧ e 3 = .int .i64 b ∧ e 4 = .fn (.func cf) [] [capA ps] ∧ e 18 = .int .i64 mid ∧ e 19 = .int .i64 nn ∧ e 20 = .int .i64 i ∧ e 21 = .int .i64 j ∧ e 22 = .int .i64 p ∧ k = j - i ∧ cutSQ le X Y a m nn lo hi i j ∧ H' = H) (hi - lo) ?_ ?_
  · exact ⟨lo, hi, by simp, by simp, by simp, by simp, by simp, by simp, by simp, by first | (simp; done) | (simp; omega), by first | (simp; done) | (simp; omega), by simp, rfl, ⟨by omega, by omega, by omega, .inl rfl, .inl rfl⟩, rfl⟩
  rintro k e H' ⟨i, j, h0, h1, h2, h3, h4, h18, h19, h20, h21, h22, rfl, hcut, rfl⟩
  by_cases hlt : i < j
  · obtain ⟨hci, _, hcj, hc1, hc2⟩ := hcut
    obtain ⟨ij, hij⟩ : ∃ ij, ij = i + j := ⟨_, rfl⟩
    have u1 : IntKind.i64.wrap ((i : Int) + j) = (ij : Int) := by rw [wrap_i64 (by omega) (by omega)]; omega
    obtain ⟨h, hh⟩ : ∃ h, h = ij / 2 := ⟨_, rfl⟩
    have u2 := half_wrapQ (p := ij) (h := h) (by omega) hh
    obtain ⟨g, hg⟩ : ∃ g, g + h = p := ⟨p - h, by omega⟩
    have u3 : IntKind.i64.wrap ((p : Int) - h) = (g : Int) := by rw [wrap_i64 (by omega) (by omega)]; omega
    have u4 : IntKind.i64.wrap ((h : Int) + 1) = ((h + 1 : Nat) : Int) := by rw [wrap_i64 (by omega) (by omega)]; omega
    obtain ⟨q, hq⟩ : ∃ q, h = a + q := ⟨h - a, by omega⟩
    obtain ⟨t, ht⟩ : ∃ t, g = m + t := ⟨g - m, by omega⟩
    have hqX : q < X.length := by omega
    have htY : t < Y.length := by omega
    have b1 : h < n := by omega
    have b2 : g < n := by omega
    have g1 : ∀ k, L[h]'k = X[q] := fun k => by subst hq; exact hLx q hqX k
    have g2 : ∀ k, L[g]'k = Y[t] := fun k => by subst ht; exact hLy t htY k
    have kc := hC.cmp Y[t] X[q] (hok _ (List.mem_append_right _ (List.getElem_mem htY))) (hok _ (List.mem_append_left _ (List.getElem_mem hqX)))
    have hlk := hC.link X[q] Y[t] (hbf _ (List.getElem_mem hqX) _ (List.getElem_mem htY))
    simp [h0, h1, h2, h3, h4, h18, h19, h20, h21, h22, hlt, u1, u2, u3, hr, hLl, g1, g2, b1, b2]
    refine TDK.callW kc (Dws.self (by simp)) ?_
    by_cases hcc : c Y[t] X[q] < 0
    · have hle := hlk.1 hcc
      simp [h0, h1, h2, h3, h4, h18, h19, h20, h21, h22, hlt, u1, u2, u3, hr, hLl, g1, g2, b1, b2, hcc]
      refine ⟨h - i, by omega, i, rfl, h, rfl, rfl, by omega, by omega, by omega, hc1, .inr fun q' t' hq' ht' e1 e2 => ?_⟩
      obtain rfl : q' = q := by omega
      obtain rfl : t' = t := by omega
      exact hle
    · have hle : le X[q] Y[t] := Classical.byContradiction fun h2 => hcc (hlk.2 h2)
      have hcc' : 0 ≤ c Y[t] X[q] := by omega
      simp [h0, h1, h2, h3, h4, h18, h19, h20, h21, h22, hlt, u1, u2, u3, hr, hLl, g1, g2, b1, b2, hcc, hcc']
      refine ⟨j - (h + 1), by omega, h + 1, u4, j, rfl, rfl, by omega, by omega, by omega, .inr fun q' t' hq' ht' e1 e2 => ?_, hc2⟩
      obtain rfl : q' = q := by omega
      obtain rfl : t' = t := by omega
      exact hle
  · obtain rfl : i = j := by have := hcut.2.1; omega
    obtain ⟨t1, t2, t3, t4, t5, t6⟩ := cut_partsQ hC (by omega) hb (by omega) (by omega) hmid hnn hlo hhi hX hY hcut
    obtain ⟨en, hen⟩ : ∃ en, en = nn - i := ⟨_, rfl⟩
    rw [← hen] at t3 t4 t5 t6
    have u1 : IntKind.i64.wrap ((nn : Int) - i) = (en : Int) := by rw [wrap_i64 (by omega) (by omega)]; omega
    obtain ⟨X1, hX1⟩ : ∃ Z, Z = X.take (i - a) := ⟨_, rfl⟩
    obtain ⟨X2, hX2⟩ : ∃ Z, Z = X.drop (i - a) := ⟨_, rfl⟩
    obtain ⟨Y1, hY1⟩ : ∃ Z, Z = Y.take (en - m) := ⟨_, rfl⟩
    obtain ⟨Y2, hY2⟩ : ∃ Z, Z = Y.drop (en - m) := ⟨_, rfl⟩
    have hXe : X = X1 ++ X2 := by rw [hX1, hX2, List.take_append_drop]
    have hYe : Y = Y1 ++ Y2 := by rw [hY1, hY2, List.take_append_drop]
    have lX1 : a + X1.length = i := by rw [hX1, List.length_take]; omega
    have lX2 : i + X2.length = m := by rw [hX2, List.length_drop]; omega
    have lY1 : m + Y1.length = en := by rw [hY1, List.length_take]; omega
    have lY2 : en + Y2.length = b := by rw [hY2, List.length_drop]; omega
    rw [← hX1, ← hY2] at t5
    rw [← hY1, ← hX2] at t6
    have hfin : ∀ Z1 Z2 : List Int, Z1.Perm (X1 ++ Y1) → Z1.Pairwise le → Z2.Perm (X2 ++ Y2) → Z2.Pairwise le → symKQ H' r n le P X Y Q (.tup []) (H'.set r (.row n 1 (avs rwAQ (P ++ Z1 ++ Z2 ++ Q)))) := fun Z1 Z2 p1 s1 p2 s2 => sym_finQ hXe hYe hX hY t5 t6 p1 s1 p2 s2
    have hXp := hX
    have hYp := hY
    rw [hXe, List.pairwise_append] at hXp
    rw [hYe, List.pairwise_append] at hYp
    have hok1 : ∀ z, z ∈ X1 ++ Y1 → ok z := fun z hz => hok z (by rw [hXe, hYe]; rw [List.mem_append] at hz; rcases hz with hz | hz <;> simp [hz])
    have hok2 : ∀ z, z ∈ X2 ++ Y2 → ok z := fun z hz => hok z (by rw [hXe, hYe]; rw [List.mem_append] at hz; rcases hz with hz | hz <;> simp [hz])
    have hbf1 : ∀ x, x ∈ X1 → ∀ y, y ∈ Y1 → bf x y := fun x hx y hy => hbf x (by rw [hXe]; simp [hx]) y (by rw [hYe]; simp [hy])
    have hbf2 : ∀ x, x ∈ X2 → ∀ y, y ∈ Y2 → bf x y := fun x hx y hy => hbf x (by rw [hXe]; simp [hx]) y (by rw [hYe]; simp [hy])
    obtain ⟨N1, N2, N3, N4, N5⟩ := sym_numsQ (k := k) hmid hnn hen lX1 lX2 lY1 lY2 (by omega) (by omega)
    have hz1 : ((P ++ X1) ++ X2 ++ Y1 ++ (Y2 ++ Q)).length = n := by rw [← hLl, hL, hXe, hYe]; simp
    have hz2 : (P ++ X1).length = i := by rw [List.length_append, ha]; exact lX1
    have hz3 : (P ++ X1).length + X2.length = m := by rw [hz2]; exact lX2
    have hz4 : (P ++ X1).length + X2.length + Y1.length = en := by rw [hz3]; exact lY1
    have hz5 : i < m → 0 < X2.length := fun h => nz_ofQ lX2 h
    have hz6 : m < en → 0 < Y1.length := fun h => nz_ofQ lY1 h
    have hz7 : (P ++ X1 ++ Y1 ++ (X2 ++ Y2 ++ Q)).length = n := by rw [← hz1]; simp only [List.length_append]; ac_rfl
    have hz8 : P.length + X1.length = i := by rw [ha]; exact lX1
    have hz9 : a < i → 0 < X1.length := fun h => nz_ofQ lX1 h
    have hz10 : i < mid → 0 < Y1.length := fun h => nz_ofQ N3 h
    have hz11 : mid < en → 0 < X2.length := fun h => nz_ofQ N4 h
    have hz12 : en < b → 0 < Y2.length := fun h => nz_ofQ lY2 h
    have hy1n : en ≤ m → Y1 = [] := fun h => nil_atQ lY1 h
    have hy1m : mid ≤ i → Y1 = [] := fun h => nil_atQ N3 h
    have hy2n : b ≤ en → Y2 = [] := fun h => nil_atQ lY2 h
    have hx2n : ¬ i < m → X2 = [] := fun h => nil_atQ lX2 (Nat.le_of_not_lt h)
    have hx1n : ¬ a < i → X1 = [] := fun h => nil_atQ lX1 (Nat.le_of_not_lt h)
    have hx2m : ¬ mid < en → X2 = [] := fun h => nil_atQ N4 (Nat.le_of_not_lt h)
    clear hd1 hd2 w0 w0b w1 w2 w3 w4 hcs hlo hhi hmid hnn hp hab hdx hdy hLx hLy hx1 hy1 hcut hl
    generalize hK0 : symKQ H' r n le P X Y Q = K0 at *
    simp [h0, h1, h2, h3, h4, h18, h19, h20, h21, h22, u1]
    refine condK_of (fun q1 => ?_) (fun q1 => ?_)
    all_goals
      simp at q1
      first
      | have q1' := q1.1
        have kr := S_rotateQ H' r n (.fn (.func cf) [] [capA ps]) (P ++ X1) X2 Y1 (Y2 ++ Q) i m en hz1 hz2 hz3 hz4 (hz5 q1.1) (hz6 q1.2) (by rw [hr, hL, hXe, hYe]; simp) h1k
        simp [h0, h1, h2, h3, h4, h18, h19, h20, h21, h22, u1]
        refine TS.pt kr ?_
        have hr1 : (H'.set r (.row n 1 (avs rwAQ (P ++ X1 ++ Y1 ++ X2 ++ (Y2 ++ Q)))))[r]? = some (.row n 1 (avs rwAQ (P ++ X1 ++ Y1 ++ (X2 ++ Y2 ++ Q)))) := by rw [List.getElem?_set_self hrl]; simp
        have hs1 : ∀ z, (H'.set r (.row n 1 (avs rwAQ (P ++ X1 ++ Y1 ++ X2 ++ (Y2 ++ Q))))).set r z = H'.set r z := fun z => by simp
        generalize H'.set r (.row n 1 (avs rwAQ (P ++ X1 ++ Y1 ++ X2 ++ (Y2 ++ Q)))) = H1 at *
        have hl1 := (List.getElem?_eq_some_iff.1 hr1).1
        simp [h0, h1, h2, h3, h4, h18, h19, h20, h21, h22, u1]
      | have e1 : P ++ X1 ++ Y1 ++ (X2 ++ Y2 ++ Q) = L := by
          rw [hL, hXe, hYe]
          by_cases hc : i < m
          · have : Y1 = [] := hy1n (q1 hc)
            rw [this]; simp
          · have : X2 = [] := hx2n hc
            rw [this]; simp
        have hr1 : H'[r]? = some (.row n 1 (avs rwAQ (P ++ X1 ++ Y1 ++ (X2 ++ Y2 ++ Q)))) := by rw [e1]; exact hr
        obtain ⟨H1, hH1⟩ : ∃ H1, H1 = H' := ⟨_, rfl⟩
        have hs1 : ∀ z, H1.set r z = H'.set r z := fun z => by rw [hH1]
        rw [← hH1] at hr1 ⊢
        have hl1 := (List.getElem?_eq_some_iff.1 hr1).1
        simp [h0, h1, h2, h3, h4, h18, h19, h20, h21, h22, u1]
      refine condK_of (fun q2 => ?_) (fun q2 => ?_)
    all_goals
      simp at q2
      first
      | have q2' := q2.1
        have k2 := ih H1 P X1 Y1 (X2 ++ Y2 ++ Q) a i mid N1 hz7 ha hz8 N3 (hz9 q2.1) (hz10 q2.2) hr1 hok1 hbf1 hXp.1 hYp.1
        simp [h0, h1, h2, h3, h4, h18, h19, h20, h21, h22, u1]
        refine k2.mono ?_
        rintro _ _ ⟨rfl, Z1, p1, s1, rfl⟩
        rw [hs1]
        have hr2 : (H'.set r (.row n 1 (avs rwAQ (P ++ Z1 ++ (X2 ++ Y2 ++ Q)))))[r]? = some (.row n 1 (avs rwAQ (P ++ Z1 ++ X2 ++ Y2 ++ Q))) := by rw [List.getElem?_set_self hrl]; simp
        have hs2 : ∀ z, (H'.set r (.row n 1 (avs rwAQ (P ++ Z1 ++ (X2 ++ Y2 ++ Q))))).set r z = H'.set r z := fun z => by simp
        have hst : H'.set r (.row n 1 (avs rwAQ (P ++ Z1 ++ (X2 ++ Y2 ++ Q)))) = H'.set r (.row n 1 (avs rwAQ (P ++ Z1 ++ X2 ++ Y2 ++ Q))) := by simp
        generalize H'.set r (.row n 1 (avs rwAQ (P ++ Z1 ++ (X2 ++ Y2 ++ Q)))) = H2 at *
        simp [h0, h1, h2, h3, h4, h18, h19, h20, h21, h22, u1]
      | obtain ⟨Z1, hZ1⟩ : ∃ Z1, Z1 = X1 ++ Y1 := ⟨_, rfl⟩
        have p1 : Z1.Perm (X1 ++ Y1) := by rw [hZ1]
        have s1 : Z1.Pairwise le := by
          by_cases hc : a < i
          · have : Y1 = [] := hy1m (q2 hc)
            rw [hZ1, this, List.append_nil]; exact hXp.1
          · have : X1 = [] := hx1n hc
            rw [hZ1, this]; exact hYp.1
        have hr2 : H1[r]? = some (.row n 1 (avs rwAQ (P ++ Z1 ++ X2 ++ Y2 ++ Q))) := by rw [hr1, hZ1]; simp
        obtain ⟨H2, hH2⟩ : ∃ H2, H2 = H1 := ⟨_, rfl⟩
        have hs2 : ∀ z, H2.set r z = H'.set r z := fun z => by rw [hH2]; exact hs1 z
        have hst : H2 = H'.set r (.row n 1 (avs rwAQ (P ++ Z1 ++ X2 ++ Y2 ++ Q))) := by
          rw [← hs1, hH2]
          have : H1[r] = .row n 1 (avs rwAQ (P ++ Z1 ++ X2 ++ Y2 ++ Q)) := by rw [List.getElem?_eq_getElem hl1] at hr2; exact Option.some.inj hr2
          rw [← this, List.set_getElem_self]
        rw [← hH2] at hr2 ⊢
        simp [h0, h1, h2, h3, h4, h18, h19, h20, h21, h22, u1]
      refine condK_of (fun q3 => ?_) (fun q3 => ?_)
    all_goals
      simp at q3
      have hZl : Z1.length = X1.length + Y1.length := by rw [p1.length_eq]; simp
      first
      | have q3' := q3.1
        have k3 := ih H2 (P ++ Z1) X2 Y2 Q mid en b N2 (by rw [← hz7]; simp only [List.length_append, hZl]; ac_rfl) (by rw [List.length_append, hZl, ha]; exact N5) (by rw [List.length_append, hZl, ha, N5]; exact N4) lY2 (hz11 q3.1) (hz12 q3.2) hr2 hok2 hbf2 hXp.2.1 hYp.2.1
        simp [h0, h1, h2, h3, h4, h18, h19, h20, h21, h22, u1]
        refine k3.mono ?_
        rintro _ _ ⟨rfl, Z2, p2, s2, rfl⟩
        rw [hs2]
        have := hfin Z1 Z2 p1 s1 p2 s2
        simp [h0, h1, h2, h3, h4, h18, h19, h20, h21, h22, u1]
        simpa using this
      | have s2 : (X2 ++ Y2).Pairwise le := by
          by_cases hc : mid < en
          · have : Y2 = [] := hy2n (q3 hc)
            rw [this, List.append_nil]; exact hXp.2.1
          · have : X2 = [] := hx2m hc
            rw [this]; exact hYp.2.1
        have := hfin Z1 (X2 ++ Y2) p1 s1 (List.Perm.refl _) s2
        simp [h0, h1, h2, h3, h4, h18, h19, h20, h21, h22, u1]
        rw [hst]
        simpa using this
