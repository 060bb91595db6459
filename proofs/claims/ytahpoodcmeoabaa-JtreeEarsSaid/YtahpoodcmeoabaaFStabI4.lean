/- slices.SortStableFunc on numbers: blocks, and all. -/
import Derived.Test.YtahpoodcmeoabaaFStabI3
namespace Go.Proofs.Ytahpoodcmeoabaa.PL
open Go.Proofs
set_option linter.unusedVariables false
set_option linter.unusedSimpArgs false
def insIQ (le : Int → Int → Prop) (P X Q : List Int) (t : Nat) (L : List Int) : Prop := ∃ Z : List Int, Z.Perm (X.take t) ∧ Z.Pairwise le ∧ L = P ++ Z ++ X.drop t ++ Q
def insKQ (H : List HO) (r n : Nat) (le : Int → Int → Prop) (P X Q : List Int) (x : AV) (H' : List HO) : Prop := x = .tup [] ∧ ∃ Z : List Int, Z.Perm X ∧ Z.Pairwise le ∧ H' = H.set r (.row n 1 (avs rwAQ (P ++ Z ++ Q)))
theorem ins_nextQ {le bf : Int → Int → Prop} {cf : FuncId} {ps : List Int} {c : Int → Int → Int} {ok : Int → Prop} (hC : Cmp3Q cf ps c le bf ok) {P X Q Z : List Int} {t s : Nat} {x : Int} (ht : t < X.length) (hx : X[t] = x) (hp : Z.Perm (X.take t)) (hs : Z.Pairwise le) (hd : ∀ z, z ∈ Z.drop s → ¬ le z x) (htk : ∀ z, z ∈ Z.take s → le z x) :
    insIQ le P X Q (t + 1) (P ++ (Z.take s ++ x :: Z.drop s) ++ X.drop (t + 1) ++ Q) := by
  refine ⟨Z.take s ++ x :: Z.drop s, ?_, ?_, rfl⟩
  · refine List.Perm.trans List.perm_middle ?_
    rw [List.take_append_drop, take_next ht, hx]
    exact (hp.cons x).trans (List.perm_append_comm (l₁ := [x]))
  · have hsp : (Z.take s ++ Z.drop s).Pairwise le := by rw [List.take_append_drop]; exact hs
    rw [List.pairwise_append] at hsp ⊢
    refine ⟨hsp.1, List.pairwise_cons.2 ⟨fun y hy => hC.total _ _ (hd y hy), hsp.2.1⟩, fun y hy z hz => ?_⟩
    rw [List.mem_cons] at hz
    rcases hz with rfl | hz
    · exact htk y hy
    · exact hsp.2.2 y hy z hz
set_option maxHeartbeats 2000000 in
theorem S_insQ {cf : FuncId} {ps : List Int} {c : Int → Int → Int} {le bf : Int → Int → Prop} {ok : Int → Prop} (hC : Cmp3Q cf ps c le bf ok) (H : List HO) (r n : Nat) (P X Q : List Int) (a b : Nat) (hn : (P ++ X ++ Q).length = n) (ha : P.length = a) (hb : a + X.length = b) (hr : H[r]? = some (.row n 1 (avs rwAQ (P ++ X ++ Q)))) (h1k : n ≤ 1000)
    (hok : ∀ z, z ∈ X → ok z) (hbf : X.Pairwise bf) :
    TS Try.prog 170 [.mv r n 1 0 n, .int .i64 a, .int .i64 b, .fn (.func cf) [] [capA ps]] H (insKQ H r n le P X Q) := by
  have hrl := (List.getElem?_eq_some_iff.1 hr).1
  have hl : P.length + X.length + Q.length = n := by rw [← hn]; simp; omega
  have h00 : H = H.set r (.row n 1 (avs rwAQ (P ++ X ++ Q))) := by
    have : H[r] = .row n 1 (avs rwAQ (P ++ X ++ Q)) := by rw [List.getElem?_eq_getElem hrl] at hr; exact Option.some.inj hr
    rw [← this, List.set_getElem_self]
  have hst : insIQ le P X Q 1 (P ++ X ++ Q) := by
    refine ⟨X.take 1, List.Perm.refl _, ?_, by rw [List.append_assoc P (X.take 1), List.take_append_drop]⟩
    cases X with
    | nil => simp
    | cons x X => simp
  refine TS.body mix Try.func170 (by kernel_rfl) rfl (by kernel_rfl) (by simp) ?_
  have w0 := wrap_next (i := a) (n := n + 1) (by omega) (by omega)
  simp [w0]
  refine vc_loop (fun k : Nat => X.length + 1 - k) (fun t e H' => ∃ L : List Int, e 0 = .mv r n 1 0 n ∧ e 1 = .int .i64 a ∧ e 2 = .int .i64 b ∧ e 3 = .fn (.func cf) [] [capA ps] ∧ e 8 = .int .i64 (a + t : Nat) ∧ 1 ≤ t ∧ t ≤ X.length + 1 ∧ insIQ le P X Q t L ∧ H' = H.set r (.row n 1 (avs rwAQ L))) 1 ?_ ?_
  · exact ⟨_, by simp, by simp, by simp, by simp, by simp, by omega, by omega, hst, h00⟩
  rintro t e H' ⟨L, h0, h1, h2, h3, h8, ht1, ht, ⟨Z, hZp, hZs, hL⟩, rfl⟩
  obtain ⟨i, hi⟩ : ∃ i, i = a + t := ⟨_, rfl⟩
  rw [← hi] at h8
  by_cases hlt : i < b
  · have htX : t < X.length := by omega
    obtain ⟨x, hx⟩ : ∃ x, X[t] = x := ⟨_, rfl⟩
    have hZl : Z.length = t := by rw [hZp.length_eq, List.length_take]; omega
    have hstart : L = P ++ (Z.take Z.length ++ x :: Z.drop Z.length) ++ X.drop (t + 1) ++ Q := by
      rw [hL, List.drop_eq_getElem_cons htX, hx]; simp
    have hxb : ∀ z, z ∈ Z → bf z x := fun z hz => by
      have hz' := hZp.mem_iff.1 hz
      obtain ⟨q, hq, rfl⟩ := List.mem_take_iff_getElem.1 hz'
      rw [← hx]
      exact List.pairwise_iff_getElem.1 hbf q t (by omega) htX (by omega)
    have hZs2 : ∀ q q', q < q' → ∀ (h : q < Z.length) (h' : q' < Z.length), le Z[q] Z[q'] := fun q q' hq h h' => List.pairwise_iff_getElem.1 hZs q q' h h' hq
    have hxok : ok x := hok _ (by rw [← hx]; exact List.getElem_mem htX)
    have hzok : ∀ z, z ∈ Z → ok z := fun z hz => hok z (List.mem_of_mem_take (hZp.mem_iff.1 hz))
    simp [h0, h1, h2, h3, h8, hlt]
    refine vc_loop (fun k : Nat => k) (fun s e H2 => e 0 = .mv r n 1 0 n ∧ e 1 = .int .i64 a ∧ e 2 = .int .i64 b ∧ e 3 = .fn (.func cf) [] [capA ps] ∧ e 8 = .int .i64 i ∧ e 9 = .int .i64 (a + s : Nat) ∧ s ≤ Z.length ∧ (∀ z, z ∈ Z.drop s → ¬ le z x) ∧ H2 = H.set r (.row n 1 (avs rwAQ (P ++ (Z.take s ++ x :: Z.drop s) ++ X.drop (t + 1) ++ Q)))) Z.length ?_ ?_
    · exact ⟨by simp [h0], by simp [h1], by simp [h2], by simp [h3], by simp [h8], by simp; omega, by omega, by simp, by rw [← hstart]⟩
    clear h0 h1 h2 h3 h8 e
    rintro s e H2 ⟨h0, h1, h2, h3, h8, h9, hsZ, hd, rfl⟩
    obtain ⟨p, hp⟩ : ∃ p, p = a + s := ⟨_, rfl⟩
    rw [← hp] at h9
    have hll : (P ++ (Z.take s ++ x :: Z.drop s) ++ X.drop (t + 1) ++ Q).length = n := by simp; omega
    have ewi : IntKind.i64.wrap ((i : Int) + 1) = ((i + 1 : Nat) : Int) := by rw [wrap_i64 (by omega) (by omega)]; omega
    by_cases hs0 : s = 0
    · subst hs0
      have hc : ¬ a < p := by omega
      have hb2 : p < n := by omega
      have hnx := ins_nextQ hC (P := P) (Q := Q) (s := 0) htX hx hZp hZs hd (by simp)
      simp [h0, h1, h2, h3, h8, h9, hc, hll, hb2, hrl]
      refine GTK.callW (fun h => nomatch h) (ys := []) (r := .int .i64 0) ?_
      simp [h0, h1, h2, h3, h8, h9, hc, hll, hb2, hrl]
      refine ⟨t + 1, by omega, by rw [ewi]; omega, by omega, by omega, _, hnx, ?_⟩
      simp
      done
    · obtain ⟨s1, hs1⟩ : ∃ s1, s = s1 + 1 := ⟨s - 1, by omega⟩
      subst hs1
      have hsZ1 : s1 < Z.length := by omega
      obtain ⟨z, hz⟩ : ∃ z, Z[s1] = z := ⟨_, rfl⟩
      have hzm : z ∈ Z := by rw [← hz]; exact List.getElem_mem hsZ1
      obtain ⟨q, hq⟩ : ∃ q, p = q + 1 := ⟨p - 1, by omega⟩
      have w5 : IntKind.i64.wrap ((p : Int) - 1) = (q : Int) := by rw [wrap_i64 (by omega) (by omega)]; omega
      have hsh : P ++ (Z.take (s1 + 1) ++ x :: Z.drop (s1 + 1)) ++ X.drop (t + 1) ++ Q = (P ++ Z.take s1) ++ z :: ([] ++ x :: (Z.drop (s1 + 1) ++ X.drop (t + 1) ++ Q)) := by
        rw [take_next hsZ1, hz]; simp
      have hA : (P ++ Z.take s1).length = q := by simp; omega
      have hB : (P ++ Z.take s1).length + 1 + ([] : List Int).length = p := by rw [hA]; simp; omega
      have hsw := swap_twoQ (P ++ Z.take s1) [] (Z.drop (s1 + 1) ++ X.drop (t + 1) ++ Q) z x
      rw [hB, hA, ← hsh] at hsw
      have hnx : P ++ (Z.take s1 ++ x :: Z.drop s1) ++ X.drop (t + 1) ++ Q = (P ++ Z.take s1) ++ x :: ([] ++ z :: (Z.drop (s1 + 1) ++ X.drop (t + 1) ++ Q)) := by
        rw [List.drop_eq_getElem_cons hsZ1, hz]; simp
      rw [← hnx] at hsw
      have g1 : ∀ k, (P ++ (Z.take (s1 + 1) ++ x :: Z.drop (s1 + 1)) ++ X.drop (t + 1) ++ Q)[q]'k = z := fun k => by
        have : (P ++ (Z.take (s1 + 1) ++ x :: Z.drop (s1 + 1)) ++ X.drop (t + 1) ++ Q)[q]? = some z := by rw [hsh, ← hA]; simp
        rw [List.getElem?_eq_getElem k] at this; exact Option.some.inj this
      have g2 : ∀ k, (P ++ (Z.take (s1 + 1) ++ x :: Z.drop (s1 + 1)) ++ X.drop (t + 1) ++ Q)[p]'k = x := fun k => by
        have : (P ++ (Z.take (s1 + 1) ++ x :: Z.drop (s1 + 1)) ++ X.drop (t + 1) ++ Q)[p]? = some x := by rw [hsh, ← hB, List.getElem?_append_right (by omega), show (P ++ Z.take s1).length + 1 + ([] : List Int).length - (P ++ Z.take s1).length = 1 by simp]; simp
        rw [List.getElem?_eq_getElem k] at this; exact Option.some.inj this
      have kc := hC.cmp x z hxok (hzok z hzm)
      have hlk := hC.link z x (hxb z hzm)
      have b1 : p < n := by omega
      have b2 : q < n := by omega
      have hc : a < p := by omega
      have hstop : ¬ c x z < 0 → insIQ le P X Q (t + 1) (P ++ (Z.take (s1 + 1) ++ x :: Z.drop (s1 + 1)) ++ X.drop (t + 1) ++ Q) := fun hcc => by
        have hle : le z x := Classical.byContradiction fun h2 => hcc (hlk.2 h2)
        refine ins_nextQ hC htX hx hZp hZs hd fun w hw => ?_
        obtain ⟨u, hu, rfl⟩ := List.mem_take_iff_getElem.1 hw
        by_cases hus : u = s1
        · subst hus; rw [hz]; exact hle
        · exact hC.trans _ _ _ (hZs2 u s1 (by omega) (by omega) hsZ1) (by rw [hz]; exact hle)
      have hgo : c x z < 0 → ∀ w, w ∈ Z.drop s1 → ¬ le w x := fun hcc w hw => by
        rw [List.drop_eq_getElem_cons hsZ1, List.mem_cons] at hw
        rcases hw with rfl | hw
        · rw [hz]; exact hlk.1 hcc
        · exact hd w hw
      generalize P ++ (Z.take (s1 + 1) ++ x :: Z.drop (s1 + 1)) ++ X.drop (t + 1) ++ Q = K at *
      simp [h0, h1, h2, h3, h8, h9, hc, hll, b1, b2, hrl, g1, g2, w5]
      refine GTK.callW (fun _ => ⟨kc, Dws.self (by simp)⟩) ?_
      by_cases hcc : c x z < 0
      · simp [h0, h1, h2, h3, h8, h9, hc, hll, b1, b2, hrl, g1, g2, w5, hcc]
        refine ⟨by omega, by omega, s1, by omega, by omega, by omega, hgo hcc, ?_⟩
        rw [setIQ (show p < K.length by omega), setIQ (show q < (K.set p z).length by rw [List.length_set]; omega), List.set_comm _ _ (by omega), hsw]
        simp
      · simp [h0, h1, h2, h3, h8, h9, hc, hll, b1, b2, hrl, g1, g2, w5, hcc]
        exact ⟨t + 1, by omega, by rw [ewi]; omega, by omega, by omega, _, hstop hcc, rfl⟩
  · simp [h0, h1, h2, h3, h8, hlt]
    refine ⟨rfl, Z, ?_, hZs, ?_⟩
    · rw [List.take_of_length_le (by omega)] at hZp
      exact hZp
    · rw [hL, List.drop_of_length_le (by omega)]
      simp
def stblKQ (H : List HO) (r n : Nat) (le : Int → Int → Prop) (l : List Int) (x : AV) (H' : List HO) : Prop := x = .tup [] ∧ ∃ Z : List Int, Z.Perm l ∧ Z.Pairwise le ∧ H' = H.set r (.row n 1 (avs rwAQ Z))
theorem pw_bfQ {bf : Int → Int → Prop} {A B A' B' : List Int} (h : (A ++ B).Pairwise bf) (pa : A'.Perm A) (pb : B'.Perm B) : ∀ x, x ∈ A' → ∀ y, y ∈ B' → bf x y := fun x hx y hy => (List.pairwise_append.1 h).2.2 x (pa.mem_iff.1 hx) y (pb.mem_iff.1 hy)
theorem S_stab1Q {cf : FuncId} {ps : List Int} {c : Int → Int → Int} {le bf : Int → Int → Prop} {ok : Int → Prop} (hC : Cmp3Q cf ps c le bf ok) (H : List HO) (r n : Nat) (l : List Int) (hn : l.length = n) (hr : H[r]? = some (.row n 1 (avs rwAQ l))) (hok : ∀ z, z ∈ l → ok z) (hbf : l.Pairwise bf) (hlt : n < 20) :
    TS Try.prog 151 [.mv r n 1 0 n, .int .i64 n, .fn (.func cf) [] [capA ps]] H (stblKQ H r n le l) := by
  have k1 := S_insQ hC H r n [] l [] 0 n (by simpa using hn) rfl (by simpa using hn) (by simpa using hr) (by omega) hok hbf
  have c1 : ¬ (20 : Int) ≤ n := by omega
  have c2 : ¬ (20 : Int) < n := by omega
  refine TS.body mix Try.func151 (by kernel_rfl) rfl (by kernel_rfl) (by simp) ?_
  simp
  refine vc_rnds 1 ?_
  simp [c1]
  refine TS.mono k1 ?_
  rintro _ _ ⟨rfl, Z, hp, hs, rfl⟩
  simp
  refine vc_rnds 1 ?_
  simp [c2]
  exact ⟨rfl, Z, by simpa using hp, hs, by simp⟩
set_option maxHeartbeats 2000000 in
theorem S_stab2Q {cf : FuncId} {ps : List Int} {c : Int → Int → Int} {le bf : Int → Int → Prop} {ok : Int → Prop} (hC : Cmp3Q cf ps c le bf ok) (H : List HO) (r n : Nat) (A B : List Int) (hn : (A ++ B).length = n) (hA : A.length = 20) (hB : B.length < 20) (hr : H[r]? = some (.row n 1 (avs rwAQ (A ++ B)))) (hok : ∀ z, z ∈ A ++ B → ok z) (hbf : (A ++ B).Pairwise bf) :
    TS Try.prog 151 [.mv r n 1 0 n, .int .i64 n, .fn (.func cf) [] [capA ps]] H (stblKQ H r n le (A ++ B)) := by
  have hrl := (List.getElem?_eq_some_iff.1 hr).1
  have hl : 20 + B.length = n := by rw [← hn, ← hA]; simp
  have hbf2 := List.pairwise_append.1 hbf
  have k1 := S_insQ hC H r n [] A B 0 20 (by simpa using hn) rfl (by omega) (by simpa using hr) (by omega) (fun z hz => hok z (by simp [hz])) hbf2.1
  have c1 : (20 : Int) ≤ n := by omega
  have c3 : ¬ (40 : Int) ≤ n := by omega
  have w1 : IntKind.i64.wrap (20 + 20) = 40 := by decide
  refine TS.body mix Try.func151 (by kernel_rfl) rfl (by kernel_rfl) (by simp) ?_
  simp
  refine vc_rnds 2 ?_
  simp [c1]
  refine TS.mono k1 ?_
  rintro _ _ ⟨rfl, Z, hp, hs, rfl⟩
  have hZl : Z.length = 20 := by rw [hp.length_eq, hA]
  simp [c1, w1]
  refine rnds.next ?_
  simp [c3]
  have k2 := S_insQ hC (H.set r (.row n 1 (avs rwAQ (Z ++ B)))) r n Z B [] 20 n (by simp; omega) hZl (by omega) (by rw [List.getElem?_set_self hrl]; simp) (by omega) (fun z hz => hok z (by simp [hz])) hbf2.2.1
  refine TS.mono k2 ?_
  rintro _ _ ⟨rfl, W, hp2, hs2, rfl⟩
  have hWl : W.length = B.length := by rw [hp2.length_eq]
  simp
  by_cases hB0 : B.length = 0
  · have c2 : ¬ (20 : Int) < n := by omega
    have hW0 : W = [] := List.eq_nil_of_length_eq_zero (by omega)
    have hBn : B = [] := List.eq_nil_of_length_eq_zero hB0
    refine vc_rnds 1 ?_
    simp [c2]
    exact ⟨rfl, Z, by rw [hBn, List.append_nil]; exact hp, hs, by rw [hW0]; simp⟩
  · have c2 : (20 : Int) < n := by omega
    have k3 := S_symQ hC r n (by omega) (Z.length + W.length) (H.set r (.row n 1 (avs rwAQ (Z ++ W)))) [] Z W [] 0 20 n (Nat.le_refl _) (by simp; omega) rfl (by simp; omega) (by omega) (by omega) (by omega) (by rw [List.getElem?_set_self hrl]; simp) (fun z hz => hok z ((hp.append hp2).mem_iff.1 hz)) (pw_bfQ hbf hp hp2) hs hs2
    have w2 : IntKind.i64.wrap (2 * 20) = 40 := by decide
    have w3 : IntKind.i64.wrap (0 + 20) = 20 := by decide
    have w4 : IntKind.i64.wrap (20 * 2) = 40 := by decide
    have c4 : ¬ (40 : Int) < n := by omega
    refine vc_rnds 2 ?_
    simp [c2, w2]
    refine vc_rnds 1 ?_
    simp [c3, c2, w3]
    refine TS.mono k3 ?_
    rintro _ _ ⟨rfl, V, hp3, hs3, rfl⟩
    simp [c2, w4]
    refine rnds.next ?_
    simp [c4]
    exact ⟨rfl, V, hp3.trans (hp.append hp2), hs3, by simp⟩
set_option maxHeartbeats 2000000 in
theorem S_stab3Q {cf : FuncId} {ps : List Int} {c : Int → Int → Int} {le bf : Int → Int → Prop} {ok : Int → Prop} (hC : Cmp3Q cf ps c le bf ok) (H : List HO) (r n : Nat) (A B C : List Int) (hn : (A ++ B ++ C).length = n) (hA : A.length = 20) (hB : B.length = 20) (hCl : C.length < 20) (hr : H[r]? = some (.row n 1 (avs rwAQ (A ++ B ++ C)))) (hok : ∀ z, z ∈ A ++ B ++ C → ok z) (hbf : (A ++ B ++ C).Pairwise bf) :
    TS Try.prog 151 [.mv r n 1 0 n, .int .i64 n, .fn (.func cf) [] [capA ps]] H (stblKQ H r n le (A ++ B ++ C)) := by
  have hrl := (List.getElem?_eq_some_iff.1 hr).1
  have hl : 40 + C.length = n := by rw [← hn]; simp; omega
  have hbf2 := List.pairwise_append.1 hbf
  have hbf3 := List.pairwise_append.1 hbf2.1
  have k1 := S_insQ hC H r n [] A (B ++ C) 0 20 (by simpa using hn) rfl (by omega) (by simpa using hr) (by omega) (fun z hz => hok z (by simp [hz])) hbf3.1
  have c1 : (20 : Int) ≤ n := by omega
  have c2 : (40 : Int) ≤ n := by omega
  have c3 : ¬ (60 : Int) ≤ n := by omega
  have w1 : IntKind.i64.wrap (20 + 20) = 40 := by decide
  have w1b : IntKind.i64.wrap (40 + 20) = 60 := by decide
  refine TS.body mix Try.func151 (by kernel_rfl) rfl (by kernel_rfl) (by simp) ?_
  simp
  refine vc_rnds 3 ?_
  simp [c1]
  refine TS.mono k1 ?_
  rintro _ _ ⟨rfl, Z, hp, hs, rfl⟩
  have hZl : Z.length = 20 := by rw [hp.length_eq, hA]
  simp [c1, w1]
  refine rnds.next ?_
  simp [c2]
  have k2 := S_insQ hC (H.set r (.row n 1 (avs rwAQ (Z ++ (B ++ C))))) r n Z B C 20 40 (by simp; omega) hZl (by omega) (by rw [List.getElem?_set_self hrl]; simp) (by omega) (fun z hz => hok z (by simp [hz])) hbf3.2.1
  refine TS.mono k2 ?_
  rintro _ _ ⟨rfl, W, hp2, hs2, rfl⟩
  have hWl : W.length = 20 := by rw [hp2.length_eq, hB]
  simp [c2, w1b]
  refine rnds.next ?_
  simp [c3]
  have k3 := S_insQ hC (H.set r (.row n 1 (avs rwAQ (Z ++ (W ++ C))))) r n (Z ++ W) C [] 40 n (by simp; omega) (by simp; omega) (by omega) (by rw [List.getElem?_set_self hrl]; simp) (by omega) (fun z hz => hok z (by simp [hz])) hbf2.2.1
  refine TS.mono k3 ?_
  rintro _ _ ⟨rfl, V, hp3, hs3, rfl⟩
  have hVl : V.length = C.length := by rw [hp3.length_eq]
  have k4 := S_symQ hC r n (by omega) (Z.length + W.length) (H.set r (.row n 1 (avs rwAQ (Z ++ (W ++ V))))) [] Z W V 0 20 40 (Nat.le_refl _) (by simp; omega) rfl (by simp; omega) (by omega) (by omega) (by omega) (by rw [List.getElem?_set_self hrl]; simp) (fun z hz => hok z (by rw [List.append_assoc] at *; rw [List.mem_append] at hz ⊢; rcases hz with hz | hz; exact .inl (hp.mem_iff.1 hz); exact .inr (List.mem_append_left _ (hp2.mem_iff.1 hz)))) (pw_bfQ hbf2.1 hp hp2) hs hs2
  have d1 : (20 : Int) < n := by omega
  have d2 : ¬ (80 : Int) ≤ n := by omega
  have d3 : ¬ (60 : Int) < n := by omega
  have d4 : ¬ (80 : Int) < n := by omega
  have w2 : IntKind.i64.wrap (2 * 20) = 40 := by decide
  have w3 : IntKind.i64.wrap (0 + 20) = 20 := by decide
  have w4 : IntKind.i64.wrap (20 * 2) = 40 := by decide
  have w5 : IntKind.i64.wrap (2 * 40) = 80 := by decide
  have w6 : IntKind.i64.wrap (40 + 40) = 80 := by decide
  have w7 : IntKind.i64.wrap (0 + 40) = 40 := by decide
  have w8 : IntKind.i64.wrap (40 * 2) = 80 := by decide
  simp
  refine vc_rnds 3 ?_
  simp [d1, w2]
  refine vc_rnds 2 ?_
  simp [c2, w3]
  refine TS.mono k4 ?_
  rintro _ _ ⟨rfl, U, hp4, hs4, rfl⟩
  have hUl : U.length = 40 := by rw [hp4.length_eq, List.length_append]; omega
  have hpU : U.Perm (A ++ B) := hp4.trans (hp.append hp2)
  simp [w2, w6]
  refine rnds.next ?_
  simp [d2, w1b, d3, w4]
  refine rnds.next ?_
  by_cases hC0 : C.length = 0
  · have d5 : ¬ (40 : Int) < n := by omega
    have hV0 : V = [] := List.eq_nil_of_length_eq_zero (by omega)
    have hCn : C = [] := List.eq_nil_of_length_eq_zero hC0
    simp [d5]
    exact ⟨rfl, U, by rw [hCn, List.append_nil]; exact hpU, hs4, by rw [hV0]; simp⟩
  · have d5 : (40 : Int) < n := by omega
    have k5 := S_symQ hC r n (by omega) (U.length + V.length) (H.set r (.row n 1 (avs rwAQ (U ++ V)))) [] U V [] 0 40 n (Nat.le_refl _) (by simp; omega) rfl (by simp; omega) (by omega) (by omega) (by omega) (by rw [List.getElem?_set_self hrl]; simp) (fun z hz => hok z ((hpU.append hp3).mem_iff.1 hz)) (pw_bfQ hbf hpU hp3) hs4 hs3
    simp [d5, w5]
    refine vc_rnds 1 ?_
    simp [d2, w7, d5]
    refine TS.mono k5 ?_
    rintro _ _ ⟨rfl, T, hp5, hs5, rfl⟩
    simp [w8]
    refine rnds.next ?_
    simp [d4]
    exact ⟨rfl, T, hp5.trans (by have := hpU.append hp3; simpa using this), hs5, by simp⟩
theorem S_stabQ {cf : FuncId} {ps : List Int} {c : Int → Int → Int} {le bf : Int → Int → Prop} {ok : Int → Prop} (hC : Cmp3Q cf ps c le bf ok) (H : List HO) (r n : Nat) (l : List Int) (hn : l.length = n) (h60 : n < 60) (hr : H[r]? = some (.row n 1 (avs rwAQ l))) (hok : ∀ z, z ∈ l → ok z) (hbf : l.Pairwise bf) :
    TS Try.prog 96 [.mv r n 1 0 n, .fn (.func cf) [] [capA ps]] H (stblKQ H r n le l) := by
  have k : TS Try.prog 151 [.mv r n 1 0 n, .int .i64 n, .fn (.func cf) [] [capA ps]] H (stblKQ H r n le l) := by
    by_cases h1 : n < 20
    · exact S_stab1Q hC H r n l hn hr hok hbf h1
    by_cases h2 : n < 40
    · have e : l = l.take 20 ++ l.drop 20 := (List.take_append_drop 20 l).symm
      rw [e] at hn hr hok hbf ⊢
      exact S_stab2Q hC H r n _ _ hn (by rw [List.length_take]; rw [← e] at hn; omega) (by rw [List.length_drop]; rw [← e] at hn; omega) hr hok hbf
    · have e : l = l.take 20 ++ (l.drop 20).take 20 ++ l.drop 40 := by rw [List.append_assoc, show l.drop 40 = (l.drop 20).drop 20 by rw [List.drop_drop], List.take_append_drop, List.take_append_drop]
      rw [e] at hn hr hok hbf ⊢
      have hn' : l.length = n := by rw [e]; exact hn
      exact S_stab3Q hC H r n _ _ _ hn (by rw [List.length_take]; omega) (by rw [List.length_take, List.length_drop]; omega) (by rw [List.length_drop]; omega) hr hok hbf
  refine TS.body mix Try.func96 (by kernel_rfl) rfl (by kernel_rfl) (by simp) ?_
  simp
  refine TS.mono k ?_
  rintro _ _ ⟨rfl, Z, h1, h2, rfl⟩
  simp
  exact ⟨rfl, Z, h1, h2, rfl⟩
end Go.Proofs.Ytahpoodcmeoabaa.PL
