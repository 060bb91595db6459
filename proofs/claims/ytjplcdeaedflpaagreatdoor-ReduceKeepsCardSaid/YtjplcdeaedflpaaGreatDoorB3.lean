/- Contracts of functions of the program, and plain laws (part 3): slices.SortStableFunc on numbers: blocks, and all; Trees by their parents: from the root on; Ears of hypergraphs, in plain words: whichever goes first, the others may go  parents by ears make ways that tell what both ends have; What is left of ears, and trees of them; Trees by their parents: roots, children, depths  and the reference's; Trees by their parents: the reference's ways  another root; What reduce.below tells to whoever ranges over it; What the functions of tables tell; What finding in tables tells; Rows put together, and parts of them; RowsParts; How values lie: what follows of any . -/
import Derived.Test.YtjplcdeaedflpaaGreatDoorB0
import Derived.Test.YtjplcdeaedflpaaGreatDoorB1
import Derived.Test.YtjplcdeaedflpaaGreatDoorB2
import Derived.RangeFuncLeaves
import Derived.WalkKit
import Derived.OwnWalkIn
import Derived.TacticsInMore
import Derived.LoopNIn
import Derived.LoopIn
namespace Go.Proofs.YtjplcdeaedflpaaGreatDoor.PL
open Go.Proofs
set_option linter.unusedVariables false
set_option linter.unusedSimpArgs false
def insIQ (le : Int → Int → Prop) (P X Q : List Int) (t : Nat) (L : List Int) : Prop := ∃ Z : List Int, Z.Perm (X.take t) ∧ Z.Pairwise le ∧ L = P ++ Z ++ X.drop t ++ Q
def insKQ (H : List HO) (r n : Nat) (le : Int → Int → Prop) (P X Q : List Int) (x : AV) (H' : List HO) : Prop := x = .tup [] ∧ ∃ Z : List Int, Z.Perm X ∧ Z.Pairwise le ∧ H' = H.set r (.row n 1 (avs rwAQ (P ++ Z ++ Q)))
theorem ins_nextQ {le bf : Int → Int → Prop} {cf : FuncId} {ps : List Int} {c : Int → Int → Int} {ok : Int → Prop} (hC : Cmp3Q cf ps c le bf ok) {P X Q Z : List Int} {t s : Nat} {x : Int} (ht : t < X.length) (hx : X[t] = x) (hp : Z.Perm (X.take t)) (hs : Z.Pairwise le) (hd : ∀ z, z ∈ Z.drop s → ¬ le z x) (htk : ∀ z, z ∈ Z.take s → le z x) :
    insIQ le P X Q (t + 1) (P ++ (Z.take s ++ x :: Z.drop s) ++ X.drop (t + 1) ++ Q) := by
  refine ⟨Z.take s ++ x :: Z.drop s, ?_, ?_, rfl⟩
  · refine List.Perm.trans List.perm_middle ?_
    rw [List.take_append_drop, take_next ht, hx]
    exact (hp.cons x).trans (List.perm_append_comm (l₁ := [x]))
  · have hsp : (Z.take s ++ Z.drop s).Pairwise le := by rw [List.take_append_drop]; exact hs
    rw [List.pairwise_append] at hsp ⊢
    refine ⟨hsp.1, List.pairwise_cons.2 ⟨fun y hy => hC.total _ _ (hd y hy), hsp.2.1⟩, fun y hy z hz => ?_⟩
    rw [List.mem_cons] at hz
    rcases hz with rfl | hz
    · exact htk y hy
    · exact hsp.2.2 y hy z hz
set_option maxHeartbeats 2000000 in
theorem S_insQ {cf : FuncId} {ps : List Int} {c : Int → Int → Int} {le bf : Int → Int → Prop} {ok : Int → Prop} (hC : Cmp3Q cf ps c le bf ok) (H : List HO) (r n : Nat) (P X Q : List Int) (a b : Nat) (hn : (P ++ X ++ Q).length = n) (ha : P.length = a) (hb : a + X.length = b) (hr : H[r]? = some (.row n 1 (avs rwAQ (P ++ X ++ Q)))) (h1k : n ≤ 1000)
    (hok : ∀ z, z ∈ X → ok z) (hbf : X.Pairwise bf) :
    TS Tryz.prog 157 [.mv r n 1 0 n, .int .i64 a, .int .i64 b, .fn (.func cf) [] [capA ps]] H (insKQ H r n le P X Q) := by
  have hrl := (List.getElem?_eq_some_iff.1 hr).1
  have hl : P.length + X.length + Q.length = n := by rw [← hn]; simp; omega
  have h00 : H = H.set r (.row n 1 (avs rwAQ (P ++ X ++ Q))) := by
    have : H[r] = .row n 1 (avs rwAQ (P ++ X ++ Q)) := by rw [List.getElem?_eq_getElem hrl] at hr; exact Option.some.inj hr
    rw [← this, List.set_getElem_self]
  have hst : insIQ le P X Q 1 (P ++ X ++ Q) := by
    refine ⟨X.take 1, List.Perm.refl _, ?_, by rw [List.append_assoc P (X.take 1), List.take_append_drop]⟩
    cases X with
    | nil => simp
    | cons x X => simp
  refine TS.body mix Tryz.func157 (by kernel_rfl) rfl (by kernel_rfl) (by simp) ?_
  have w0 := wrap_next (i := a) (n := n + 1) (by omega) (by omega)
  simp [w0]
  refine vc_loop (fun k : Nat => X.length + 1 - k) (fun t e H' => ∃ L : List Int, e 0 = .mv r n 1 0 n ∧ e 1 = .int .i64 a ∧ e 2 = .int .i64 b ∧ e 3 = .fn (.func cf) [] [capA ps] ∧ e 8 = .int .i64 (a + t : Nat) ∧ 1 ≤ t ∧ t ≤ X.length + 1 ∧ insIQ le P X Q t L ∧ H' = H.set r (.row n 1 (avs rwAQ L))) 1 ?_ ?_
  · exact ⟨_, by simp, by simp, by simp, by simp, by simp, by omega, by omega, hst, h00⟩
  rintro t e H' ⟨L, h0, h1, h2, h3, h8, ht1, ht, ⟨Z, hZp, hZs, hL⟩, rfl⟩
  obtain ⟨i, hi⟩ : ∃ i, i = a + t := ⟨_, rfl⟩
  rw [← hi] at h8
  by_cases hlt : i < b
  · have htX : t < X.length := by omega
    obtain ⟨x, hx⟩ : ∃ x, X[t] = x := ⟨_, rfl⟩
    have hZl : Z.length = t := by rw [hZp.length_eq, List.length_take]; omega
    have hstart : L = P ++ (Z.take Z.length ++ x :: Z.drop Z.length) ++ X.drop (t + 1) ++ Q := by
      rw [hL, List.drop_eq_getElem_cons htX, hx]; simp
    have hxb : ∀ z, z ∈ Z → bf z x := fun z hz => by
      have hz' := hZp.mem_iff.1 hz
      obtain ⟨q, hq, rfl⟩ := List.mem_take_iff_getElem.1 hz'
      rw [← hx]
      exact List.pairwise_iff_getElem.1 hbf q t (by omega) htX (by omega)
    have hZs2 : ∀ q q', q < q' → ∀ (h : q < Z.length) (h' : q' < Z.length), le Z[q] Z[q'] := fun q q' hq h h' => List.pairwise_iff_getElem.1 hZs q q' h h' hq
    have hxok : ok x := hok _ (by rw [← hx]; exact List.getElem_mem htX)
    have hzok : ∀ z, z ∈ Z → ok z := fun z hz => hok z (List.mem_of_mem_take (hZp.mem_iff.1 hz))
    simp [h0, h1, h2, h3, h8, hlt]
    refine vc_loop (fun k : Nat => k) (fun s e H2 => e 0 = .mv r n 1 0 n ∧ e 1 = .int .i64 a ∧ e 2 = .int .i64 b ∧ e 3 = .fn (.func cf) [] [capA ps] ∧ e 8 = .int .i64 i ∧ e 9 = .int .i64 (a + s : Nat) ∧ s ≤ Z.length ∧ (∀ z, z ∈ Z.drop s → ¬ le z x) ∧ H2 = H.set r (.row n 1 (avs rwAQ (P ++ (Z.take s ++ x :: Z.drop s) ++ X.drop (t + 1) ++ Q)))) Z.length ?_ ?_
    · exact ⟨by simp [h0], by simp [h1], by simp [h2], by simp [h3], by simp [h8], by simp; omega, by omega, by simp, by rw [← hstart]⟩
    clear h0 h1 h2 h3 h8 e
    rintro s e H2 ⟨h0, h1, h2, h3, h8, h9, hsZ, hd, rfl⟩
    obtain ⟨p, hp⟩ : ∃ p, p = a + s := ⟨_, rfl⟩
    rw [← hp] at h9
    have hll : (P ++ (Z.take s ++ x :: Z.drop s) ++ X.drop (t + 1) ++ Q).length = n := by simp; omega
    have ewi : IntKind.i64.wrap ((i : Int) + 1) = ((i + 1 : Nat) : Int) := by rw [wrap_i64 (by omega) (by omega)]; omega
    by_cases hs0 : s = 0
    · subst hs0
      have hc : ¬ a < p := by omega
      have hb2 : p < n := by omega
      have hnx := ins_nextQ hC (P := P) (Q := Q) (s := 0) htX hx hZp hZs hd (by simp)
      simp [h0, h1, h2, h3, h8, h9, hc, hll, hb2, hrl]
      refine GTK.callW (fun h => nomatch h) (ys := []) (r := .int .i64 0) ?_
      simp [h0, h1, h2, h3, h8, h9, hc, hll, hb2, hrl]
      refine ⟨t + 1, by omega, by rw [ewi]; omega, by omega, by omega, _, hnx, ?_⟩
      simp
      done
    · obtain ⟨s1, hs1⟩ : ∃ s1, s = s1 + 1 := ⟨s - 1, by omega⟩
      subst hs1
      have hsZ1 : s1 < Z.length := by omega
      obtain ⟨z, hz⟩ : ∃ z, Z[s1] = z := ⟨_, rfl⟩
      have hzm : z ∈ Z := by rw [← hz]; exact List.getElem_mem hsZ1
      obtain ⟨q, hq⟩ : ∃ q, p = q + 1 := ⟨p - 1, by omega⟩
      have w5 : IntKind.i64.wrap ((p : Int) - 1) = (q : Int) := by rw [wrap_i64 (by omega) (by omega)]; omega
      have hsh : P ++ (Z.take (s1 + 1) ++ x :: Z.drop (s1 + 1)) ++ X.drop (t + 1) ++ Q = (P ++ Z.take s1) ++ z :: ([] ++ x :: (Z.drop (s1 + 1) ++ X.drop (t + 1) ++ Q)) := by
        rw [take_next hsZ1, hz]; simp
      have hA : (P ++ Z.take s1).length = q := by simp; omega
      have hB : (P ++ Z.take s1).length + 1 + ([] : List Int).length = p := by rw [hA]; simp; omega
      have hsw := swap_twoQ (P ++ Z.take s1) [] (Z.drop (s1 + 1) ++ X.drop (t + 1) ++ Q) z x
      rw [hB, hA, ← hsh] at hsw
      have hnx : P ++ (Z.take s1 ++ x :: Z.drop s1) ++ X.drop (t + 1) ++ Q = (P ++ Z.take s1) ++ x :: ([] ++ z :: (Z.drop (s1 + 1) ++ X.drop (t + 1) ++ Q)) := by
        rw [List.drop_eq_getElem_cons hsZ1, hz]; simp
      rw [← hnx] at hsw
      have g1 : ∀ k, (P ++ (Z.take (s1 + 1) ++ x :: Z.drop (s1 + 1)) ++ X.drop (t + 1) ++ Q)[q]'k = z := fun k => by
        have : (P ++ (Z.take (s1 + 1) ++ x :: Z.drop (s1 + 1)) ++ X.drop (t + 1) ++ Q)[q]? = some z := by rw [hsh, ← hA]; simp
        rw [List.getElem?_eq_getElem k] at this; exact Option.some.inj this
      have g2 : ∀ k, (P ++ (Z.take (s1 + 1) ++ x :: Z.drop (s1 + 1)) ++ X.drop (t + 1) ++ Q)[p]'k = x := fun k => by
        have : (P ++ (Z.take (s1 + 1) ++ x :: Z.drop (s1 + 1)) ++ X.drop (t + 1) ++ Q)[p]? = some x := by rw [hsh, ← hB, List.getElem?_append_right (by omega), show (P ++ Z.take s1).length + 1 + ([] : List Int).length - (P ++ Z.take s1).length = 1 by simp]; simp
        rw [List.getElem?_eq_getElem k] at this; exact Option.some.inj this
      have kc := hC.cmp x z hxok (hzok z hzm)
      have hlk := hC.link z x (hxb z hzm)
      have b1 : p < n := by omega
      have b2 : q < n := by omega
      have hc : a < p := by omega
      have hstop : ¬ c x z < 0 → insIQ le P X Q (t + 1) (P ++ (Z.take (s1 + 1) ++ x :: Z.drop (s1 + 1)) ++ X.drop (t + 1) ++ Q) := fun hcc => by
        have hle : le z x := Classical.byContradiction fun h2 => hcc (hlk.2 h2)
        refine ins_nextQ hC htX hx hZp hZs hd fun w hw => ?_
        obtain ⟨u, hu, rfl⟩ := List.mem_take_iff_getElem.1 hw
        by_cases hus : u = s1
        · subst hus; rw [hz]; exact hle
        · exact hC.trans _ _ _ (hZs2 u s1 (by omega) (by omega) hsZ1) (by rw [hz]; exact hle)
      have hgo : c x z < 0 → ∀ w, w ∈ Z.drop s1 → ¬ le w x := fun hcc w hw => by
        rw [List.drop_eq_getElem_cons hsZ1, List.mem_cons] at hw
        rcases hw with rfl | hw
        · rw [hz]; exact hlk.1 hcc
        · exact hd w hw
      generalize P ++ (Z.take (s1 + 1) ++ x :: Z.drop (s1 + 1)) ++ X.drop (t + 1) ++ Q = K at *
      simp [h0, h1, h2, h3, h8, h9, hc, hll, b1, b2, hrl, g1, g2, w5]
      refine GTK.callW (fun _ => ⟨kc, Dws.self (by simp)⟩) ?_
      by_cases hcc : c x z < 0
      · simp [h0, h1, h2, h3, h8, h9, hc, hll, b1, b2, hrl, g1, g2, w5, hcc]
        refine ⟨by omega, by omega, s1, by omega, by omega, by omega, hgo hcc, ?_⟩
        rw [setIQ (show p < K.length by omega), setIQ (show q < (K.set p z).length by rw [List.length_set]; omega), List.set_comm _ _ (by omega), hsw]
        simp
      · simp [h0, h1, h2, h3, h8, h9, hc, hll, b1, b2, hrl, g1, g2, w5, hcc]
        exact ⟨t + 1, by omega, by rw [ewi]; omega, by omega, by omega, _, hstop hcc, rfl⟩
  · simp [h0, h1, h2, h3, h8, hlt]
    refine ⟨rfl, Z, ?_, hZs, ?_⟩
    · rw [List.take_of_length_le (by omega)] at hZp
      exact hZp
    · rw [hL, List.drop_of_length_le (by omega)]
      simp
def stblKQ (H : List HO) (r n : Nat) (le : Int → Int → Prop) (l : List Int) (x : AV) (H' : List HO) : Prop := x = .tup [] ∧ ∃ Z : List Int, Z.Perm l ∧ Z.Pairwise le ∧ H' = H.set r (.row n 1 (avs rwAQ Z))
theorem pw_bfQ {bf : Int → Int → Prop} {A B A' B' : List Int} (h : (A ++ B).Pairwise bf) (pa : A'.Perm A) (pb : B'.Perm B) : ∀ x, x ∈ A' → ∀ y, y ∈ B' → bf x y := fun x hx y hy => (List.pairwise_append.1 h).2.2 x (pa.mem_iff.1 hx) y (pb.mem_iff.1 hy)
theorem S_stab1Q {cf : FuncId} {ps : List Int} {c : Int → Int → Int} {le bf : Int → Int → Prop} {ok : Int → Prop} (hC : Cmp3Q cf ps c le bf ok) (H : List HO) (r n : Nat) (l : List Int) (hn : l.length = n) (hr : H[r]? = some (.row n 1 (avs rwAQ l))) (hok : ∀ z, z ∈ l → ok z) (hbf : l.Pairwise bf) (hlt : n < 20) :
    TS Tryz.prog 135 [.mv r n 1 0 n, .int .i64 n, .fn (.func cf) [] [capA ps]] H (stblKQ H r n le l) := by
  have k1 := S_insQ hC H r n [] l [] 0 n (by simpa using hn) rfl (by simpa using hn) (by simpa using hr) (by omega) hok hbf
  have c1 : ¬ (20 : Int) ≤ n := by omega
  have c2 : ¬ (20 : Int) < n := by omega
  refine TS.body mix Tryz.func135 (by kernel_rfl) rfl (by kernel_rfl) (by simp) ?_
  simp
  refine vc_rnds 1 ?_
  simp [c1]
  refine TS.mono k1 ?_
  rintro _ _ ⟨rfl, Z, hp, hs, rfl⟩
  simp
  refine vc_rnds 1 ?_
  simp [c2]
  exact ⟨rfl, Z, by simpa using hp, hs, by simp⟩
set_option maxHeartbeats 2000000 in
theorem S_stab2Q {cf : FuncId} {ps : List Int} {c : Int → Int → Int} {le bf : Int → Int → Prop} {ok : Int → Prop} (hC : Cmp3Q cf ps c le bf ok) (H : List HO) (r n : Nat) (A B : List Int) (hn : (A ++ B).length = n) (hA : A.length = 20) (hB : B.length < 20) (hr : H[r]? = some (.row n 1 (avs rwAQ (A ++ B)))) (hok : ∀ z, z ∈ A ++ B → ok z) (hbf : (A ++ B).Pairwise bf) :
    TS Tryz.prog 135 [.mv r n 1 0 n, .int .i64 n, .fn (.func cf) [] [capA ps]] H (stblKQ H r n le (A ++ B)) := by
  have hrl := (List.getElem?_eq_some_iff.1 hr).1
  have hl : 20 + B.length = n := by rw [← hn, ← hA]; simp
  have hbf2 := List.pairwise_append.1 hbf
  have k1 := S_insQ hC H r n [] A B 0 20 (by simpa using hn) rfl (by omega) (by simpa using hr) (by omega) (fun z hz => hok z (by simp [hz])) hbf2.1
  have c1 : (20 : Int) ≤ n := by omega
  have c3 : ¬ (40 : Int) ≤ n := by omega
  have w1 : IntKind.i64.wrap (20 + 20) = 40 := by decide
  refine TS.body mix Tryz.func135 (by kernel_rfl) rfl (by kernel_rfl) (by simp) ?_
  simp
  refine vc_rnds 2 ?_
  simp [c1]
  refine TS.mono k1 ?_
  rintro _ _ ⟨rfl, Z, hp, hs, rfl⟩
  have hZl : Z.length = 20 := by rw [hp.length_eq, hA]
  simp [c1, w1]
  refine rnds.next ?_
  simp [c3]
  have k2 := S_insQ hC (H.set r (.row n 1 (avs rwAQ (Z ++ B)))) r n Z B [] 20 n (by simp; omega) hZl (by omega) (by rw [List.getElem?_set_self hrl]; simp) (by omega) (fun z hz => hok z (by simp [hz])) hbf2.2.1
  refine TS.mono k2 ?_
  rintro _ _ ⟨rfl, W, hp2, hs2, rfl⟩
  have hWl : W.length = B.length := by rw [hp2.length_eq]
  simp
  by_cases hB0 : B.length = 0
  · have c2 : ¬ (20 : Int) < n := by omega
    have hW0 : W = [] := List.eq_nil_of_length_eq_zero (by omega)
    have hBn : B = [] := List.eq_nil_of_length_eq_zero hB0
    refine vc_rnds 1 ?_
    simp [c2]
    exact ⟨rfl, Z, by rw [hBn, List.append_nil]; exact hp, hs, by rw [hW0]; simp⟩
  · have c2 : (20 : Int) < n := by omega
    have k3 := S_symQ hC r n (by omega) (Z.length + W.length) (H.set r (.row n 1 (avs rwAQ (Z ++ W)))) [] Z W [] 0 20 n (Nat.le_refl _) (by simp; omega) rfl (by simp; omega) (by omega) (by omega) (by omega) (by rw [List.getElem?_set_self hrl]; simp) (fun z hz => hok z ((hp.append hp2).mem_iff.1 hz)) (pw_bfQ hbf hp hp2) hs hs2
    have w2 : IntKind.i64.wrap (2 * 20) = 40 := by decide
    have w3 : IntKind.i64.wrap (0 + 20) = 20 := by decide
    have w4 : IntKind.i64.wrap (20 * 2) = 40 := by decide
    have c4 : ¬ (40 : Int) < n := by omega
    refine vc_rnds 2 ?_
    simp [c2, w2]
    refine vc_rnds 1 ?_
    simp [c3, c2, w3]
    refine TS.mono k3 ?_
    rintro _ _ ⟨rfl, V, hp3, hs3, rfl⟩
    simp [c2, w4]
    refine rnds.next ?_
    simp [c4]
    exact ⟨rfl, V, hp3.trans (hp.append hp2), hs3, by simp⟩
set_option maxHeartbeats 2000000 in
theorem S_stab3Q {cf : FuncId} {ps : List Int} {c : Int → Int → Int} {le bf : Int → Int → Prop} {ok : Int → Prop} (hC : Cmp3Q cf ps c le bf ok) (H : List HO) (r n : Nat) (A B C : List Int) (hn : (A ++ B ++ C).length = n) (hA : A.length = 20) (hB : B.length = 20) (hCl : C.length < 20) (hr : H[r]? = some (.row n 1 (avs rwAQ (A ++ B ++ C)))) (hok : ∀ z, z ∈ A ++ B ++ C → ok z) (hbf : (A ++ B ++ C).Pairwise bf) :
    TS Tryz.prog 135 [.mv r n 1 0 n, .int .i64 n, .fn (.func cf) [] [capA ps]] H (stblKQ H r n le (A ++ B ++ C)) := by
  have hrl := (List.getElem?_eq_some_iff.1 hr).1
  have hl : 40 + C.length = n := by rw [← hn]; simp; omega
  have hbf2 := List.pairwise_append.1 hbf
  have hbf3 := List.pairwise_append.1 hbf2.1
  have k1 := S_insQ hC H r n [] A (B ++ C) 0 20 (by simpa using hn) rfl (by omega) (by simpa using hr) (by omega) (fun z hz => hok z (by simp [hz])) hbf3.1
  have c1 : (20 : Int) ≤ n := by omega
  have c2 : (40 : Int) ≤ n := by omega
  have c3 : ¬ (60 : Int) ≤ n := by omega
  have w1 : IntKind.i64.wrap (20 + 20) = 40 := by decide
  have w1b : IntKind.i64.wrap (40 + 20) = 60 := by decide
  refine TS.body mix Tryz.func135 (by kernel_rfl) rfl (by kernel_rfl) (by simp) ?_
  simp
  refine vc_rnds 3 ?_
  simp [c1]
  refine TS.mono k1 ?_
  rintro _ _ ⟨rfl, Z, hp, hs, rfl⟩
  have hZl : Z.length = 20 := by rw [hp.length_eq, hA]
  simp [c1, w1]
  refine rnds.next ?_
  simp [c2]
  have k2 := S_insQ hC (H.set r (.row n 1 (avs rwAQ (Z ++ (B ++ C))))) r n Z B C 20 40 (by simp; omega) hZl (by omega) (by rw [List.getElem?_set_self hrl]; simp) (by omega) (fun z hz => hok z (by simp [hz])) hbf3.2.1
  refine TS.mono k2 ?_
  rintro _ _ ⟨rfl, W, hp2, hs2, rfl⟩
  have hWl : W.length = 20 := by rw [hp2.length_eq, hB]
  simp [c2, w1b]
  refine rnds.next ?_
  simp [c3]
  have k3 := S_insQ hC (H.set r (.row n 1 (avs rwAQ (Z ++ (W ++ C))))) r n (Z ++ W) C [] 40 n (by simp; omega) (by simp; omega) (by omega) (by rw [List.getElem?_set_self hrl]; simp) (by omega) (fun z hz => hok z (by simp [hz])) hbf2.2.1
  refine TS.mono k3 ?_
  rintro _ _ ⟨rfl, V, hp3, hs3, rfl⟩
  have hVl : V.length = C.length := by rw [hp3.length_eq]
  have k4 := S_symQ hC r n (by omega) (Z.length + W.length) (H.set r (.row n 1 (avs rwAQ (Z ++ (W ++ V))))) [] Z W V 0 20 40 (Nat.le_refl _) (by simp; omega) rfl (by simp; omega) (by omega) (by omega) (by omega) (by rw [List.getElem?_set_self hrl]; simp) (fun z hz => hok z (by rw [List.append_assoc] at *; rw [List.mem_append] at hz ⊢; rcases hz with hz | hz; exact .inl (hp.mem_iff.1 hz); exact .inr (List.mem_append_left _ (hp2.mem_iff.1 hz)))) (pw_bfQ hbf2.1 hp hp2) hs hs2
  have d1 : (20 : Int) < n := by omega
  have d2 : ¬ (80 : Int) ≤ n := by omega
  have d3 : ¬ (60 : Int) < n := by omega
  have d4 : ¬ (80 : Int) < n := by omega
  have w2 : IntKind.i64.wrap (2 * 20) = 40 := by decide
  have w3 : IntKind.i64.wrap (0 + 20) = 20 := by decide
  have w4 : IntKind.i64.wrap (20 * 2) = 40 := by decide
  have w5 : IntKind.i64.wrap (2 * 40) = 80 := by decide
  have w6 : IntKind.i64.wrap (40 + 40) = 80 := by decide
  have w7 : IntKind.i64.wrap (0 + 40) = 40 := by decide
  have w8 : IntKind.i64.wrap (40 * 2) = 80 := by decide
  simp
  refine vc_rnds 3 ?_
  simp [d1, w2]
  refine vc_rnds 2 ?_
  simp [c2, w3]
  refine TS.mono k4 ?_
  rintro _ _ ⟨rfl, U, hp4, hs4, rfl⟩
  have hUl : U.length = 40 := by rw [hp4.length_eq, List.length_append]; omega
  have hpU : U.Perm (A ++ B) := hp4.trans (hp.append hp2)
  simp [w2, w6]
  refine rnds.next ?_
  simp [d2, w1b, d3, w4]
  refine rnds.next ?_
  by_cases hC0 : C.length = 0
  · have d5 : ¬ (40 : Int) < n := by omega
    have hV0 : V = [] := List.eq_nil_of_length_eq_zero (by omega)
    have hCn : C = [] := List.eq_nil_of_length_eq_zero hC0
    simp [d5]
    exact ⟨rfl, U, by rw [hCn, List.append_nil]; exact hpU, hs4, by rw [hV0]; simp⟩
  · have d5 : (40 : Int) < n := by omega
    have k5 := S_symQ hC r n (by omega) (U.length + V.length) (H.set r (.row n 1 (avs rwAQ (U ++ V)))) [] U V [] 0 40 n (Nat.le_refl _) (by simp; omega) rfl (by simp; omega) (by omega) (by omega) (by omega) (by rw [List.getElem?_set_self hrl]; simp) (fun z hz => hok z ((hpU.append hp3).mem_iff.1 hz)) (pw_bfQ hbf hpU hp3) hs4 hs3
    simp [d5, w5]
    refine vc_rnds 1 ?_
    simp [d2, w7, d5]
    refine TS.mono k5 ?_
    rintro _ _ ⟨rfl, T, hp5, hs5, rfl⟩
    simp [w8]
    refine rnds.next ?_
    simp [d4]
    exact ⟨rfl, T, hp5.trans (by have := hpU.append hp3; simpa using this), hs5, by simp⟩
theorem S_stabQ {cf : FuncId} {ps : List Int} {c : Int → Int → Int} {le bf : Int → Int → Prop} {ok : Int → Prop} (hC : Cmp3Q cf ps c le bf ok) (H : List HO) (r n : Nat) (l : List Int) (hn : l.length = n) (h60 : n < 60) (hr : H[r]? = some (.row n 1 (avs rwAQ l))) (hok : ∀ z, z ∈ l → ok z) (hbf : l.Pairwise bf) :
    TS Tryz.prog 121 [.mv r n 1 0 n, .fn (.func cf) [] [capA ps]] H (stblKQ H r n le l) := by
  have k : TS Tryz.prog 135 [.mv r n 1 0 n, .int .i64 n, .fn (.func cf) [] [capA ps]] H (stblKQ H r n le l) := by
    by_cases h1 : n < 20
    · exact S_stab1Q hC H r n l hn hr hok hbf h1
    by_cases h2 : n < 40
    · have e : l = l.take 20 ++ l.drop 20 := (List.take_append_drop 20 l).symm
      rw [e] at hn hr hok hbf ⊢
      exact S_stab2Q hC H r n _ _ hn (by rw [List.length_take]; rw [← e] at hn; omega) (by rw [List.length_drop]; rw [← e] at hn; omega) hr hok hbf
    · have e : l = l.take 20 ++ (l.drop 20).take 20 ++ l.drop 40 := by rw [List.append_assoc, show l.drop 40 = (l.drop 20).drop 20 by rw [List.drop_drop], List.take_append_drop, List.take_append_drop]
      rw [e] at hn hr hok hbf ⊢
      have hn' : l.length = n := by rw [e]; exact hn
      exact S_stab3Q hC H r n _ _ _ hn (by rw [List.length_take]; omega) (by rw [List.length_take, List.length_drop]; omega) (by rw [List.length_drop]; omega) hr hok hbf
  refine TS.body mix Tryz.func121 (by kernel_rfl) rfl (by kernel_rfl) (by simp) ?_
  simp
  refine TS.mono k ?_
  rintro _ _ ⟨rfl, Z, h1, h2, rfl⟩
  simp
  exact ⟨rfl, Z, h1, h2, rfl⟩
end Go.Proofs.YtjplcdeaedflpaaGreatDoor.PL
namespace Go.Proofs.YtjplcdeaedflpaaGreatDoor.PL
open Go.Proofs
set_option linter.unusedVariables false
set_option linter.unusedSimpArgs false
/-- how many are on the way up -/
def dpt (ps : List Int) (x : Int) : Nat := (upI ps x).length
def dleP (ps : List Int) (x y : Int) : Prop := dpt ps x < dpt ps y ∨ (dpt ps x = dpt ps y ∧ x ≤ y)
theorem T_down1 (ps : List Int) (x y : Int) (hl : ps.length ≤ 1000000) : T Tryz.prog 122 [.int .i64 x, .int .i64 y, capA ps] (.int .i64 ((dpt ps x : Int) - (dpt ps y : Int))) := by
  have k1 := T_up ps x hl
  have k2 := T_up ps y hl
  have h1 : (upI ps x).length ≤ ps.length := upF_len _ _
  have h2 : (upI ps y).length ≤ ps.length := upF_len _ _
  have ew : IntKind.i64.wrap (((upI ps x).length : Int) - ((upI ps y).length : Int)) = ((upI ps x).length : Int) - ((upI ps y).length : Int) := wrap_i64 (by omega) (by omega)
  refine T.intro (TS.body mix Tryz.func122 (by kernel_rfl) rfl (by kernel_rfl) (by simp) ?_)
  simp
  refine TDK.callW k1 (Dws.self (by simp)) ?_
  simp
  refine TDK.callW k2 (Dws.self (by simp)) ?_
  simp [ew, dpt]
theorem downC (ps : List Int) (hl : ps.length ≤ 1000000) : Cmp3Q 122 ps (fun x y => (dpt ps x : Int) - (dpt ps y : Int)) (dleP ps) (fun x y => x < y) (fun _ => True) :=
  ⟨fun x y _ _ => T_down1 ps x y hl, fun x y z h1 h2 => by unfold dleP at *; omega, fun x y h => by unfold dleP at *; omega, fun x y h => by unfold dleP; omega⟩
/-- numbers up to n -/
def upTo (n : Nat) : List Int := (List.range n).map fun (k : Nat) => (k : Int)
theorem upTo_next (n : Nat) : upTo (n + 1) = upTo n ++ [(n : Int)] := by unfold upTo; rw [List.range_succ, List.map_append]; rfl
theorem upTo_len (n : Nat) : (upTo n).length = n := by simp [upTo]
theorem upTo_pw (n : Nat) : (upTo n).Pairwise fun x y => x < y := by
  unfold upTo
  rw [List.pairwise_map]
  exact List.Pairwise.imp (fun h => by omega) List.pairwise_lt_range
/-- from the root on: by depth, and by number -/
def DownOf (ps Z : List Int) : Prop := Z.Perm (upTo ps.length) ∧ Z.Pairwise (dleP ps)
theorem DownOf.uniq {ps Z W : List Int} (h : DownOf ps Z) (k : DownOf ps W) : Z = W := by
  refine List.Perm.eq_of_pairwise (le := dleP ps) (fun a b _ _ h1 h2 => ?_) h.2 k.2 (h.1.trans k.1.symm)
  unfold dleP at h1 h2
  omega
instance (ps : List Int) (x y : Int) : Decidable (dleP ps x y) := by unfold dleP; exact inferInstance
def downI (ps : List Int) : List Int := (upTo ps.length).mergeSort fun x y => decide (dleP ps x y)
theorem downI_of (ps : List Int) : DownOf ps (downI ps) := by
  refine ⟨List.mergeSort_perm _ _, ?_⟩
  have := List.pairwise_mergeSort (le := fun x y => decide (dleP ps x y)) (fun a b c h1 h2 => by simp only [decide_eq_true_iff] at *; unfold dleP at *; omega) (fun a b => by
    rw [Bool.or_eq_true, decide_eq_true_iff, decide_eq_true_iff]; unfold dleP; omega) (upTo ps.length)
  refine this.imp fun h => ?_
  simpa using h
theorem downI_len (ps : List Int) : (downI ps).length = ps.length := by rw [(downI_of ps).1.length_eq, upTo_len]
theorem S_insNil (H : List HO) (cv : AV) : TS Tryz.prog 157 [.sl .nil [], .int .i64 0, .int .i64 0, cv] H (pt (.tup []) H) := by
  refine TS.body mix Tryz.func157 (by kernel_rfl) rfl (by kernel_rfl) (by simp) ?_
  simp
  refine vc_rnds 1 ?_
  simp
theorem S_stblNil (H : List HO) (cv : AV) : TS Tryz.prog 135 [.sl .nil [], .int .i64 0, cv] H (pt (.tup []) H) := by
  refine TS.body mix Tryz.func135 (by kernel_rfl) rfl (by kernel_rfl) (by simp) ?_
  simp
  refine vc_rnds 1 ?_
  simp
  refine TS.pt (S_insNil H cv) ?_
  simp
  refine vc_rnds 1 ?_
  simp
theorem S_stabNil (H : List HO) (cv : AV) : TS Tryz.prog 121 [.sl .nil [], cv] H (pt (.tup []) H) := by
  refine TS.body mix Tryz.func121 (by kernel_rfl) rfl (by kernel_rfl) (by simp) ?_
  simp
  refine TS.pt (S_stblNil H cv) ?_
  simp
set_option maxRecDepth 4000 in
theorem T_down (ps : List Int) (hl : ps.length < 60) : T Tryz.prog 106 [.sl .no (ints' ps)] (.sl .no (ints' (downI (heldI ps)))) := by
  have kh := T_held ps (by omega)
  have hq := heldI_len ps
  have hdo := downI_of (heldI ps)
  have hdl := downI_len (heldI ps)
  have hC := downC (heldI ps) (by omega)
  generalize downI (heldI ps) = Z at *
  generalize heldI ps = q at *
  refine T.introF (TS.bodyM [15] mix Tryz.func106 (by kernel_rfl) rfl (by kernel_rfl) (by simp) ?_)
  simp
  refine TS.callW kh (Dws.self (by simp)) ?_
  simp
  refine vc_loop (fun i : Nat => q.length - i) (fun i e H => e 1 = .ptr 0 0 ∧ e 8 = .int .i64 q.length ∧ e 9 = .int .i64 i ∧ i ≤ q.length ∧ ((i = 0 ∧ e 3 = .sl .nil [] ∧ H = [.box [.sl .no (ints' q)]]) ∨ (0 < i ∧ e 3 = .mv 1 i 1 0 i ∧ H = [.box [.sl .no (ints' q)], .row i 1 (ints' (upTo i))]))) 0 ?_ ?_
  · simp
  rintro i e H ⟨e1, e8, e9, hi, hc⟩
  by_cases hlt : i < q.length
  · have ew := wrap_next hlt (by omega)
    have hnx := upTo_next i
    rcases hc with ⟨rfl, e3, rfl⟩ | ⟨hp, e3, rfl⟩
    · simp only [Int.natCast_zero] at e9
      simp [e1, e3, e8, e9, hlt]
      exact ⟨1, by omega, by simp, by omega, by omega, rfl, rfl⟩
    · simp [e1, e3, e8, e9, hlt]
      refine ⟨⟨by omega, by omega⟩, i + 1, by omega, ew, by omega, by omega, rfl, ?_⟩
      rw [hnx]
  have hiq : i = q.length := by omega
  rcases hc with ⟨h0, e3, rfl⟩ | ⟨hp, e3, rfl⟩
  · have hZ : Z = [] := List.eq_nil_of_length_eq_zero (by omega)
    subst hZ
    rw [← hiq, h0] at e8
    rw [h0] at e9
    simp only [Int.natCast_zero] at e8 e9
    simp [e1, e3, e8, e9]
    refine TS.pt (S_stabNil _ _) ?_
    simp [e1, e3, e8, e9]
    exact Frz.slN (f := AV.int .i64) (l := [])
  · have e8' : e 8 = .int .i64 (i : Int) := by rw [e8, hiq]
    have ks := S_stabQ hC [.gone, .row i 1 (ints' (upTo i))] 1 i (upTo i) (upTo_len i) (by omega) rfl (fun _ _ => trivial) (upTo_pw i)
    simp [e1, e3, e8', e9]
    refine TS.freeze (i := 0) rfl (.cons (.same _) (.cons (.fn (.cons .ptr .nil)) .nil)) ?_
    simp
    refine TS.mono ks ?_
    rintro _ _ ⟨rfl, W, hW1, hW2, rfl⟩
    have hWZ : W = Z := DownOf.uniq (ps := q) ⟨by rw [← hiq]; exact hW1, hW2⟩ hdo
    subst hWZ
    simp [e1, e3, e8', e9]
    exact Frz.mvA (f := AV.int .i64) (sz := 1) (l := W) (by simp) (by rw [hdl, hiq])
end Go.Proofs.YtjplcdeaedflpaaGreatDoor.PL
set_option linter.unusedVariables false
set_option linter.unusedSimpArgs false
namespace Go.Proofs.YtjplcdeaedflpaaGreatDoor.PL
namespace Gy
variable {V : Nat → Int → Prop}
/-- an ear, of those that are left -/
def Ear (V : Nat → Int → Prop) (L : Nat → Prop) (i p : Nat) : Prop := L i ∧ L p ∧ p ≠ i ∧ ∀ k, L k → k ≠ i → ∀ v, V i v → V k v → V p v
def less (L : Nat → Prop) (i : Nat) : Nat → Prop := fun k => L k ∧ k ≠ i
/-- all but one may go -/
inductive Elm (V : Nat → Int → Prop) : (Nat → Prop) → Prop
  | one {L : Nat → Prop} (r : Nat) (h : ∀ k, L k ↔ k = r) : Elm V L
  | step {L : Nat → Prop} (i p : Nat) (h : Ear V L i p) (t : Elm V (less L i)) : Elm V L
def swp (M : Nat → Prop) (i e : Nat) : Nat → Prop := fun k => (M k ∧ k ≠ i) ∨ (M i ∧ k = e)
theorem Elm.congr {L M : Nat → Prop} (h : Elm V L) (e : ∀ k, L k ↔ M k) : Elm V M := by
  have : L = M := funext fun k => propext (e k)
  rw [← this]; exact h
theorem Elm.swp {M : Nat → Prop} (h : Elm V M) : ∀ {i e : Nat}, i ≠ e → ¬ M e → (∀ k, M k → k ≠ i → ∀ v, V k v → (V i v ↔ V e v)) → Elm V (swp M i e) := by
  induction h with
  | @one L r h =>
    intro i e hie he hv
    by_cases hr : i = r
    · subst hr
      exact .one e fun k => by
        unfold Gy.swp
        constructor
        · rintro (⟨h1, h2⟩ | ⟨_, h2⟩)
          · exact absurd ((h k).1 h1) h2
          · exact h2
        · intro hk; exact .inr ⟨(h i).2 rfl, hk⟩
    · exact .one r fun k => by
        unfold Gy.swp
        constructor
        · rintro (⟨h1, h2⟩ | ⟨h1, h2⟩)
          · exact (h k).1 h1
          · exact absurd ((h i).1 h1) hr
        · intro hk; exact .inl ⟨(h k).2 hk, by rw [hk]; exact fun e => hr e.symm⟩
  | @step L j q hj t ih =>
    intro i e hie he hv
    obtain ⟨j1, j2, j3, j4⟩ := hj
    have hje : j ≠ e := fun h => he (h ▸ j1)
    have hqe : q ≠ e := fun h => he (h ▸ j2)
    have key := ih (i := i) (e := e) hie (fun h => he h.1) (fun k hk hki => hv k hk.1 hki)
    by_cases hji : j = i
    · subst hji
      refine .step e q ⟨.inr ⟨j1, rfl⟩, .inl ⟨j2, j3⟩, hqe, ?_⟩ (t.congr fun k => ?_)
      · rintro k (⟨h1, h2⟩ | ⟨_, h2⟩) hke v he' hk
        · exact j4 k h1 h2 v ((hv k h1 h2 v hk).2 he') hk
        · exact absurd h2 hke
      · unfold less Gy.swp
        constructor
        · rintro ⟨h1, h2⟩; exact ⟨.inl ⟨h1, h2⟩, fun h => he (h ▸ h1)⟩
        · rintro ⟨⟨h1, h2⟩ | ⟨_, h2⟩, h3⟩
          · exact ⟨h1, h2⟩
          · exact absurd h2 h3
    · have ext : ∀ k, Gy.swp (less L j) i e k ↔ less (Gy.swp L i e) j k := by
        intro k
        unfold less Gy.swp
        constructor
        · rintro (⟨⟨h1, h2⟩, h3⟩ | ⟨⟨h1, h2⟩, h3⟩)
          · exact ⟨.inl ⟨h1, h3⟩, h2⟩
          · exact ⟨.inr ⟨h1, h3⟩, by rw [h3]; exact fun h => hje h.symm⟩
        · rintro ⟨⟨h1, h3⟩ | ⟨h1, h3⟩, h2⟩
          · exact .inl ⟨⟨h1, h2⟩, h3⟩
          · exact .inr ⟨⟨h1, fun h => hji h.symm⟩, h3⟩
      by_cases hqi : q = i
      · subst hqi
        refine .step j e ⟨.inl ⟨j1, hji⟩, .inr ⟨j2, rfl⟩, fun h => hje h.symm, ?_⟩ (key.congr ext)
        rintro k (⟨h1, h2⟩ | ⟨_, h2⟩) hkj v hjv hk
        · exact (hv j j1 hji v hjv).1 (j4 k h1 hkj v hjv hk)
        · rw [← h2]; exact hk
      · refine .step j q ⟨.inl ⟨j1, hji⟩, .inl ⟨j2, hqi⟩, j3, ?_⟩ (key.congr ext)
        rintro k (⟨h1, h2⟩ | ⟨h1, h2⟩) hkj v hjv hk
        · exact j4 k h1 hkj v hjv hk
        · rw [h2] at hk
          exact j4 i h1 (fun h => hji h.symm) v hjv ((hv j j1 hji v hjv).2 hk)
/-- whichever ear goes first, the others may go -/
theorem Elm.less {L : Nat → Prop} (h : Elm V L) : ∀ {i p : Nat}, Ear V L i p → Elm V (less L i) := by
  induction h with
  | @one L r h =>
    rintro i p ⟨h1, h2, h3, _⟩
    exact absurd (((h p).1 h2).trans ((h i).1 h1).symm) h3
  | @step L e p1 he t ih =>
    intro i p hi
    obtain ⟨e1, e2, e3, e4⟩ := he
    obtain ⟨i1, i2, i3, i4⟩ := hi
    by_cases hie : i = e
    · subst hie; exact t
    have hie' : e ≠ i := fun h => hie h.symm
    have ext : ∀ k, Gy.less (Gy.less L e) i k ↔ Gy.less (Gy.less L i) e k := fun k => ⟨fun ⟨⟨a, b⟩, c⟩ => ⟨⟨a, c⟩, b⟩, fun ⟨⟨a, b⟩, c⟩ => ⟨⟨a, c⟩, b⟩⟩
    by_cases hpe : p = e
    · subst hpe
      by_cases hpi : p1 = i
      · subst hpi
        refine (Elm.swp t (i := p1) (e := p) hie (fun h => h.2 rfl) ?_).congr fun k => ?_
        · intro k hk hki v hkv
          exact ⟨fun h => i4 k hk.1 hki v h hkv, fun h => e4 k hk.1 hk.2 v h hkv⟩
        · unfold Gy.swp Gy.less
          constructor
          · rintro (⟨⟨h1, h2⟩, h3⟩ | ⟨_, h2⟩)
            · exact ⟨h1, h3⟩
            · rw [h2]; exact ⟨e1, hie'⟩
          · rintro ⟨h1, h2⟩
            by_cases hk : k = p
            · exact .inr ⟨⟨e2, e3⟩, hk⟩
            · exact .inl ⟨⟨h1, hk⟩, h2⟩
      · have hear : Ear V (Gy.less L p) i p1 := ⟨⟨i1, hie⟩, ⟨e2, e3⟩, hpi, fun k hk hki v hiv hkv => e4 k hk.1 hk.2 v (i4 k hk.1 hki v hiv hkv) hkv⟩
        refine .step p p1 ⟨⟨e1, hie'⟩, ⟨e2, hpi⟩, e3, fun k hk hke v hev hkv => e4 k hk.1 hke v hev hkv⟩ ((ih hear).congr ext)
    · have hear : Ear V (Gy.less L e) i p := ⟨⟨i1, hie⟩, ⟨i2, hpe⟩, i3, fun k hk hki => i4 k hk.1 hki⟩
      by_cases hpi : p1 = i
      · subst hpi
        refine .step e p ⟨⟨e1, hie'⟩, ⟨i2, i3⟩, hpe, fun k hk hke v hev hkv => i4 k hk.1 hk.2 v (e4 k hk.1 hke v hev hkv) hkv⟩ ((ih hear).congr ext)
      · refine .step e p1 ⟨⟨e1, hie'⟩, ⟨e2, hpi⟩, e3, fun k hk hke v hev hkv => e4 k hk.1 hke v hev hkv⟩ ((ih hear).congr ext)
/-- whichever stays, another one may go -/
theorem Elm.two {L : Nat → Prop} (h : Elm V L) : ∀ {r : Nat}, L r → (∃ k, L k ∧ k ≠ r) → ∃ i p, Ear V L i p ∧ i ≠ r := by
  induction h with
  | @one L r' h =>
    rintro r hr ⟨k, hk, hkr⟩
    exact absurd (((h k).1 hk).trans ((h r).1 hr).symm) hkr
  | @step L e p1 he t ih =>
    intro r hr hk
    by_cases her : e = r
    · subst her
      obtain ⟨e1, e2, e3, e4⟩ := he
      by_cases h2 : ∃ k, Gy.less L e k ∧ k ≠ p1
      · obtain ⟨i, q, ⟨i1, i2, i3, i4⟩, hip⟩ := ih (r := p1) ⟨e2, e3⟩ h2
        refine ⟨i, q, ⟨i1.1, i2.1, i3, fun k hk hki v hiv hkv => ?_⟩, i1.2⟩
        by_cases hke : k = e
        · subst hke
          exact i4 p1 ⟨e2, e3⟩ (fun h => hip h.symm) v hiv (e4 i i1.1 i1.2 v hkv hiv)
        · exact i4 k ⟨hk, hke⟩ hki v hiv hkv
      · refine ⟨p1, e, ⟨e2, e1, fun h => e3 h.symm, fun k hk hkp v hpv hkv => ?_⟩, e3⟩
        by_cases hke : k = e
        · rw [← hke]; exact hkv
        · exact absurd ⟨k, ⟨hk, hke⟩, hkp⟩ h2
    · exact ⟨e, p1, he, her⟩
theorem Elm.some {L : Nat → Prop} (h : Elm V L) : ∃ r, L r := by
  cases h with
  | one r h => exact ⟨r, (h r).2 rfl⟩
  | step i p h t => exact ⟨i, h.1⟩

/-! ### trees, by their parents -/
/-- the way up -/
inductive Up (f : Nat → Option Nat) : Nat → List Nat → Prop
  | root {r : Nat} (h : f r = none) : Up f r [r]
  | step {i p : Nat} {U : List Nat} (h : f i = some p) (t : Up f p U) : Up f i (i :: U)
theorem Up.uniq {f : Nat → Option Nat} {i : Nat} {U U' : List Nat} (h : Up f i U) (h' : Up f i U') : U = U' := by
  induction h generalizing U' with
  | root h => cases h' with
    | root _ => rfl
    | step h2 _ => rw [h] at h2; cases h2
  | step h t ih => cases h' with
    | root h2 => rw [h] at h2; cases h2
    | step h2 t2 =>
      rw [h] at h2
      cases h2
      rw [ih t2]
theorem Up.head {f : Nat → Option Nat} {i : Nat} {U : List Nat} (h : Up f i U) : ∃ U', U = i :: U' := by
  cases h with
  | root _ => exact ⟨[], rfl⟩
  | step _ _ => exact ⟨_, rfl⟩
theorem Up.mem {f : Nat → Option Nat} {i : Nat} {U : List Nat} (h : Up f i U) : i ∈ U := by
  obtain ⟨U', rfl⟩ := h.head
  simp
/-- parents by ears -/
inductive ElT (V : Nat → Int → Prop) (f : Nat → Option Nat) : (Nat → Prop) → Prop
  | one {L : Nat → Prop} (r : Nat) (h : ∀ k, L k ↔ k = r) (hf : f r = none) : ElT V f L
  | step {L : Nat → Prop} (i p : Nat) (h : Ear V L i p) (hf : f i = some p) (t : ElT V f (less L i)) : ElT V f L
theorem ElT.up {f : Nat → Option Nat} {L : Nat → Prop} (h : ElT V f L) : ∀ i, L i → ∃ U, Up f i U ∧ U.Nodup ∧ ∀ x, x ∈ U → L x := by
  induction h with
  | @one L r h hf =>
    intro i hi
    have : i = r := (h i).1 hi
    subst this
    exact ⟨[i], .root hf, by simp, fun x hx => by simp at hx; rw [hx]; exact hi⟩
  | @step L i p he hf t ih =>
    intro k hk
    by_cases hki : k = i
    · subst hki
      obtain ⟨U, h1, h2, h3⟩ := ih p ⟨he.2.1, he.2.2.1⟩
      refine ⟨k :: U, .step hf h1, List.nodup_cons.2 ⟨fun h => (h3 k h).2 rfl, h2⟩, fun x hx => ?_⟩
      rcases List.mem_cons.1 hx with rfl | hx
      · exact hk
      · exact (h3 x hx).1
    · obtain ⟨U, h1, h2, h3⟩ := ih k ⟨hk, hki⟩
      exact ⟨U, h1, h2, fun x hx => (h3 x hx).1⟩
/-- ears, one after the other -/
inductive Run (V : Nat → Int → Prop) : (Nat → Prop) → List (Nat × Nat) → (Nat → Prop) → Prop
  | nil {L : Nat → Prop} : Run V L [] L
  | cons {L L' : Nat → Prop} {i p : Nat} {es : List (Nat × Nat)} (h : Ear V L i p) (t : Run V (less L i) es L') : Run V L ((i, p) :: es) L'
theorem Run.mem {L L' : Nat → Prop} {es : List (Nat × Nat)} (h : Run V L es L') : (∀ x, x ∈ es → L x.1 ∧ L x.2 ∧ ¬ L' x.1) ∧ ∀ k, L' k → L k := by
  induction h with
  | nil => exact ⟨fun x hx => (by cases hx), fun k h => h⟩
  | @cons L L' i p es he t ih =>
    refine ⟨fun x hx => ?_, fun k hk => (ih.2 k hk).1⟩
    rcases List.mem_cons.1 hx with rfl | hx
    · exact ⟨he.1, he.2.1, fun h => (ih.2 _ h).2 rfl⟩
    · have := ih.1 x hx
      exact ⟨this.1.1, this.2.1.1, this.2.2⟩
theorem Run.out {L L' : Nat → Prop} {es : List (Nat × Nat)} (h : Run V L es L') : ∀ k, L k → ¬ L' k → ∃ p, (k, p) ∈ es := by
  induction h with
  | nil => exact fun k h1 h2 => absurd h1 h2
  | @cons L L' i p es he t ih =>
    intro k h1 h2
    by_cases hk : k = i
    · exact ⟨p, by rw [hk]; simp⟩
    · obtain ⟨q, hq⟩ := ih k ⟨h1, hk⟩ h2
      exact ⟨q, List.mem_cons_of_mem _ hq⟩
/-- any one may be the last one -/
theorem Elm.run {r : Nat} : ∀ (S : List Nat) {L : Nat → Prop}, Elm V L → L r → (∀ k, L k → k ∈ S) → ∃ es L', Run V L es L' ∧ ∀ k, L' k ↔ k = r := by
  intro S
  induction hm : S.length generalizing S with
  | zero =>
    intro L h hr hs
    have : S = [] := List.eq_nil_of_length_eq_zero hm
    subst this
    cases hs r hr
  | succ m ih =>
    intro L h hr hs
    by_cases h2 : ∃ k, L k ∧ k ≠ r
    · obtain ⟨i, p, he, hir⟩ := h.two hr h2
      obtain ⟨es, L', h3, h4⟩ := ih (S.erase i) (by rw [List.length_erase_of_mem (hs i he.1), hm]; rfl) (h.less he) ⟨hr, fun e => hir e.symm⟩ (fun k hk => (List.mem_erase_of_ne hk.2).2 (hs k hk.1))
      exact ⟨(i, p) :: es, L', .cons he h3, h4⟩
    · exact ⟨[], L, .nil, fun k => ⟨fun hk => Classical.byContradiction fun hkr => h2 ⟨k, hk, hkr⟩, fun e => e ▸ hr⟩⟩
end Gy
end Go.Proofs.YtjplcdeaedflpaaGreatDoor.PL
namespace Go.Proofs.YtjplcdeaedflpaaGreatDoor.PL
open Go.Proofs
set_option linter.unusedVariables false
set_option linter.unusedSimpArgs false
/-! ### trees -/
def fOf (ps : List Int) (i : Nat) : Option Nat := if ps.getD i (-1) = -1 then none else some (ps.getD i (-1)).toNat
abbrev nI (l : List Nat) : List Int := l.map fun (n : Nat) => (n : Int)
def TreeOk (ps : List Int) : Prop := ∀ i, i < ps.length → ∃ U, Gy.Up (fOf ps) i U ∧ (∀ x, x ∈ U → x < ps.length) ∧ upI ps i = nI U
theorem upF_up {ps : List Int} : ∀ (m : Nat) (i : Int), upF ps m i ≠ [] → ps.getD ((upF ps m i).getLast?.getD 0).toNat 0 = -1 → ∃ U, Gy.Up (fOf ps) i.toNat U ∧ (∀ x, x ∈ U → x < ps.length) ∧ upF ps m i = nI U
  | 0, i, h, _ => absurd rfl h
  | m + 1, i, h, hl => by
    rw [upF] at h hl ⊢
    split at h
    · rename_i hc
      rw [if_pos hc] at hl ⊢
      obtain ⟨k, rfl⟩ : ∃ k : Nat, i = k := ⟨i.toNat, by omega⟩
      have hk : k < ps.length := by omega
      have e1 : ps.getD (k : Int).toNat 0 = ps[k] := by simp [hk]
      have e2 : ps.getD (k : Int).toNat (-1) = ps[k] := by simp [hk]
      by_cases ht : upF ps m (ps.getD (k : Int).toNat 0) = []
      · rw [ht] at hl ⊢
        have : ps[k] = -1 := by simpa [hk] using hl
        refine ⟨[k], .root (by unfold fOf; rw [e2, this]; rfl), fun x hx => by simp at hx; omega, rfl⟩
      · rw [List.getLast?_cons_of_ne_nil ht] at hl
        obtain ⟨U, h1, h2, h3⟩ := upF_up m _ ht hl
        have hne : 0 ≤ ps[k] ∧ ps[k] < ps.length := by
          rw [e1] at ht
          cases m with
          | zero => exact absurd rfl ht
          | succ m =>
            rw [upF] at ht
            split at ht
            · assumption
            · exact absurd rfl ht
        rw [e1] at h1
        refine ⟨k :: U, .step (p := ps[k].toNat) ?_ h1, fun x hx => ?_, by rw [h3]; rfl⟩
        · unfold fOf
          rw [e2, if_neg (by omega)]
        · rcases List.mem_cons.1 hx with rfl | hx
          · exact hk
          · exact h2 x hx
    · exact absurd rfl h
theorem tree_ok {ps : List Int} (h : treeI ps = true) : TreeOk ps := by
  intro i hi
  unfold treeI at h
  rw [Bool.and_eq_true, List.all_eq_true] at h
  have h1 := h.1 i (by simpa using hi)
  unfold endOk at h1
  have := upF_up ps.length i (upI_ne hi) (by simpa [upI] using h1)
  exact this
theorem up_upF {ps : List Int} {i : Nat} {U : List Nat} (h : Gy.Up (fOf ps) i U) : (∀ x, x ∈ U → x < ps.length) → (∀ x, x ∈ U → -1 ≤ ps.getD x (-1)) → ∀ m, U.length ≤ m → upF ps m i = nI U := by
  induction h with
  | @root r h =>
    intro hx hg m hm
    obtain ⟨m, rfl⟩ : ∃ k, m = k + 1 := ⟨m - 1, by simp at hm; omega⟩
    have hr : r < ps.length := hx r (by simp)
    have hc : 0 ≤ (r : Int) ∧ (r : Int) < ps.length := ⟨by omega, by omega⟩
    rw [upF, if_pos hc]
    have e1 : ps.getD (r : Int).toNat 0 = -1 := by
      unfold fOf at h
      split at h
      · rename_i e; simp [hr] at e ⊢; exact e
      · cases h
    rw [e1]
    cases m with
    | zero => rfl
    | succ m => rw [upF, if_neg (by omega)]; rfl
  | @step i p U h t ih =>
    intro hx hg m hm
    obtain ⟨m, rfl⟩ : ∃ k, m = k + 1 := ⟨m - 1, by simp at hm; omega⟩
    have hr : i < ps.length := hx i (by simp)
    have hc : 0 ≤ (i : Int) ∧ (i : Int) < ps.length := ⟨by omega, by omega⟩
    rw [upF, if_pos hc]
    have e1 : ps.getD (i : Int).toNat 0 = (p : Int) := by
      have hgi := hg i (by simp)
      unfold fOf at h
      split at h
      · cases h
      · rename_i e
        simp only [Option.some.injEq] at h
        simp [hr] at e hgi h ⊢
        omega
    rw [e1, ih (fun x h => hx x (by simp [h])) (fun x h => hg x (by simp [h])) m (by simp at hm; omega)]
    rfl
end Go.Proofs.YtjplcdeaedflpaaGreatDoor.PL
namespace Go.Proofs.YtjplcdeaedflpaaGreatDoor.PL
open Go.Proofs
set_option linter.unusedVariables false
set_option linter.unusedSimpArgs false
/-- a tree's parents are nodes of it -/
theorem tree_par {ps : List Int} (h : treeI ps = true) {i : Nat} (hi : i < ps.length) : ps[i] = -1 ∨ (0 ≤ ps[i] ∧ ps[i] < ps.length) := by
  unfold treeI at h
  rw [Bool.and_eq_true, List.all_eq_true] at h
  have h1 := h.1 i (by simpa using hi)
  unfold endOk upI at h1
  rw [decide_eq_true_iff] at h1
  obtain ⟨m, hm⟩ : ∃ m, ps.length = m + 1 := ⟨ps.length - 1, by omega⟩
  have hc : 0 ≤ (i : Int) ∧ (i : Int) < ps.length := ⟨by omega, by omega⟩
  have e1 : ps.getD (i : Int).toNat 0 = ps[i] := by simp [hi]
  rw [hm, upF, if_pos hc, e1] at h1
  cases m with
  | zero =>
    rw [upF] at h1
    simp [hi] at h1
    exact .inl h1
  | succ m =>
    rw [upF] at h1
    split at h1
    · rename_i h2; exact .inr h2
    · simp [hi] at h1
      exact .inl h1
theorem held_par {ps : List Int} {i : Nat} (hi : i < (heldI ps).length) : (heldI ps)[i] = -1 ∨ (0 ≤ (heldI ps)[i] ∧ (heldI ps)[i] < (heldI ps).length) := by
  unfold heldI at hi ⊢
  split at hi
  · rename_i h
    simp only [h, if_true]
    exact tree_par h hi
  · simp at hi

theorem held_tree {ps : List Int} : TreeOk (heldI ps) := by
  unfold heldI
  by_cases h : treeI ps = true
  · rw [if_pos h]; exact tree_ok h
  · rw [if_neg h]; intro i hi; simp at hi
theorem held_ge {ps : List Int} (x : Nat) (hx : x < (heldI ps).length) : -1 ≤ (heldI ps).getD x (-1) := by
  have h := held_par hx
  have e : (heldI ps).getD x (-1) = (heldI ps)[x] := by simp [hx]
  rw [e]
  omega
/-- more steps tell no more -/
theorem up_stab {q : List Int} (ht : TreeOk q) (hge : ∀ x, x < q.length → -1 ≤ q.getD x (-1)) (i : Int) (m : Nat) (hm : q.length ≤ m) : upF q m i = upI q i := by
  by_cases hc : 0 ≤ i ∧ i < q.length
  · obtain ⟨k, rfl⟩ : ∃ k : Nat, i = k := ⟨i.toNat, by omega⟩
    obtain ⟨U, h1, h2, h3⟩ := ht k (by omega)
    have hU : U.length ≤ q.length := by
      have : (upI q k).length ≤ q.length := upF_len _ _
      rw [h3] at this
      simpa using this
    rw [h3]
    exact up_upF h1 h2 (fun x hx => hge x (h2 x hx)) m (by omega)
  · have : ∀ m, upF q m i = [] := fun m => by cases m with | zero => rfl | succ m => rw [upF, if_neg hc]
    rw [this, upI, this]
theorem T_rdepth (ps : List Int) (i : Int) (hl : ps.length ≤ 1000000) : T Tryz.prog 104 [.sl .no (ints' ps), .int .i64 i] (.int .i64 ((dpt (heldI ps) i : Int) - 1)) := by
  have kh := T_jrheld ps hl
  have hql := heldI_len ps
  have hst := up_stab (held_tree (ps := ps)) (held_ge (ps := ps)) i ((heldI ps).length + 1) (by omega)
  have hul : (upI (heldI ps) i).length ≤ (heldI ps).length := upF_len _ _
  have hd : dpt (heldI ps) i = (upI (heldI ps) i).length := rfl
  rw [hd]
  generalize heldI ps = q at *
  refine T.intro (TS.body mix Tryz.func104 (by kernel_rfl) rfl (by kernel_rfl) (by simp) ?_)
  simp
  refine TS.callW kh (Dws.self (by simp)) ?_
  simp
  refine vc_loop (fun n : Nat => q.length + 1 - n) (fun n e H => ∃ (A : List Int) (c : Int), e 1 = .int .i64 c ∧ e 5 = .sl .no (ints' q) ∧ e 6 = .int .i64 ((n : Int) - 1) ∧ A.length = n ∧ n ≤ q.length + 1 ∧ upI q i = A ++ upF q (q.length + 1 - n) c) 0 ?_ ?_
  · exact ⟨[], i, by simp, by simp, by simp, rfl, by omega, by rw [← hst]; simp⟩
  rintro n e H ⟨A, c, e1, e5, e6, hA, hn, hu⟩
  have hAU : A.length ≤ (upI q i).length := by rw [hu]; simp
  have hnl : n < q.length + 1 := by omega
  obtain ⟨m, hm⟩ : ∃ m, q.length + 1 - n = m + 1 := ⟨q.length - n, by omega⟩
  have hm2 : q.length + 1 - (n + 1) = m := by omega
  rw [hm, upF] at hu
  by_cases hc : 0 ≤ c ∧ c < q.length
  · rw [if_pos hc] at hu
    obtain ⟨k, rfl⟩ : ∃ k : Nat, c = k := ⟨c.toNat, by omega⟩
    have hk : k < q.length := by omega
    have hgk : q.getD (k : Int).toNat 0 = q[k] := by simp [hk]
    rw [hgk] at hu
    have hAl : A.length < (upI q i).length := by rw [hu]; simp
    have h2 : (n : Int) - 1 < q.length := by omega
    have ew : IntKind.i64.wrap (n : Int) = (((n + 1 : Nat) : Int) - 1) := by rw [wrap_i64 (by omega) (by omega)]; omega
    simp [e1, e5, e6, hk, h2]
    refine ⟨n + 1, by omega, ew, A ++ [(k : Int)], by simp [hA], by omega, ?_⟩
    rw [hu, hm2]
    simp
  · rw [if_neg hc, List.append_nil] at hu
    have hlen : (upI q i).length = n := by rw [hu, hA]
    rw [hlen]
    by_cases h1 : 0 ≤ c
    · have h2 : ¬ c < q.length := fun h => hc ⟨h1, h⟩
      simp [e1, e5, e6, h1, h2]
    · simp [e1, e5, e6, h1]
theorem held_held (ps : List Int) : heldI (heldI ps) = heldI ps := by
  unfold heldI
  by_cases h : treeI ps = true
  · rw [if_pos h, if_pos h]
  · rw [if_neg h]; split <;> rfl
/-- those of the first m that are so deep -/
def lvN (q : List Int) (d m : Nat) : List Int := ((List.range m).filter fun k => decide (dpt q (k : Nat) = d + 1)).map fun (k : Nat) => (k : Int)
theorem lvN_next (q : List Int) (d m : Nat) : lvN q d (m + 1) = lvN q d m ++ if dpt q (m : Nat) = d + 1 then [(m : Int)] else [] := by
  unfold lvN
  rw [List.range_succ, List.filter_append, List.map_append]
  by_cases h : dpt q (m : Nat) = d + 1
  · rw [if_pos h]; congr 1; simp only [List.filter_cons, List.filter_nil, h]; rfl
  · rw [if_neg h]; congr 1; simp only [List.filter_cons, List.filter_nil, h]; rfl
def lvsN (q : List Int) (n : Nat) : Nat → List Int
  | 0 => []
  | d + 1 => lvsN q n d ++ lvN q d n
theorem lvN_len (q : List Int) (d m : Nat) : (lvN q d m).length ≤ m := by
  unfold lvN
  rw [List.length_map]
  exact Nat.le_trans (List.length_filter_le _ _) (by simp)
theorem lvsN_len (q : List Int) (n d : Nat) : (lvsN q n d).length ≤ d * n := by
  induction d with
  | zero => simp [lvsN]
  | succ d ih =>
    rw [lvsN, List.length_append, Nat.add_mul]
    have := lvN_len q d n
    omega
theorem lvN_mem {q : List Int} {d m : Nat} {x : Int} : x ∈ lvN q d m ↔ ∃ k : Nat, k < m ∧ x = (k : Int) ∧ dpt q (k : Nat) = d + 1 := by
  unfold lvN
  simp only [List.mem_map, List.mem_filter, List.mem_range, decide_eq_true_iff]
  constructor
  · rintro ⟨k, ⟨h1, h2⟩, rfl⟩; exact ⟨k, h1, rfl, h2⟩
  · rintro ⟨k, h1, rfl, h2⟩; exact ⟨k, ⟨h1, h2⟩, rfl⟩
theorem lvsN_mem {q : List Int} {n : Nat} {x : Int} : ∀ {d : Nat}, x ∈ lvsN q n d ↔ ∃ k : Nat, k < n ∧ x = (k : Int) ∧ 1 ≤ dpt q (k : Nat) ∧ dpt q (k : Nat) ≤ d
  | 0 => by
    simp only [lvsN, List.not_mem_nil, false_iff]
    rintro ⟨k, _, _, h1, h2⟩
    omega
  | d + 1 => by
    rw [lvsN, List.mem_append, lvsN_mem, lvN_mem]
    constructor
    · rintro (⟨k, h1, h2, h3, h4⟩ | ⟨k, h1, h2, h3⟩)
      · exact ⟨k, h1, h2, h3, by omega⟩
      · exact ⟨k, h1, h2, by omega, by omega⟩
    · rintro ⟨k, h1, h2, h3, h4⟩
      by_cases h : dpt q (k : Nat) = d + 1
      · exact .inr ⟨k, h1, h2, h⟩
      · exact .inl ⟨k, h1, h2, h3, by omega⟩
theorem lvsN_pw (q : List Int) (n d : Nat) : (lvsN q n d).Pairwise (dleP q) ∧ (lvsN q n d).Nodup := by
  induction d with
  | zero => simp [lvsN]
  | succ d ih =>
    rw [lvsN]
    have hlt : (lvN q d n).Pairwise fun x y => x < y := by
      unfold lvN
      rw [List.pairwise_map]
      exact (List.Pairwise.sublist List.filter_sublist List.pairwise_lt_range).imp fun h => by omega
    constructor
    · rw [List.pairwise_append]
      refine ⟨ih.1, ?_, fun x hx y hy => ?_⟩
      · refine hlt.imp_of_mem fun {a b} ha hb h => ?_
        obtain ⟨k, _, rfl, h1⟩ := lvN_mem.1 ha
        obtain ⟨l, _, rfl, h2⟩ := lvN_mem.1 hb
        unfold dleP
        omega
      · obtain ⟨k, _, rfl, h1, h2⟩ := lvsN_mem.1 hx
        obtain ⟨l, _, rfl, h3⟩ := lvN_mem.1 hy
        unfold dleP
        omega
    · rw [List.nodup_append]
      refine ⟨ih.2, hlt.imp fun h => by omega, fun x hx y hy => ?_⟩
      obtain ⟨k, _, rfl, h1, h2⟩ := lvsN_mem.1 hx
      obtain ⟨l, _, rfl, h3⟩ := lvN_mem.1 hy
      rintro h
      have : k = l := by omega
      subst this
      omega
theorem down_levels (q : List Int) : downI q = lvsN q q.length q.length := by
  refine DownOf.uniq (downI_of q) ⟨?_, (lvsN_pw q q.length q.length).1⟩
  refine (List.perm_ext_iff_of_nodup (lvsN_pw q q.length q.length).2 ((upTo_pw q.length).imp fun h => by omega)).2 fun x => ?_
  rw [lvsN_mem]
  unfold upTo
  rw [List.mem_map]
  constructor
  · rintro ⟨k, h1, rfl, _⟩; exact ⟨k, by simpa using h1, rfl⟩
  · rintro ⟨k, h1, rfl⟩
    have hk : k < q.length := by simpa using h1
    refine ⟨k, hk, rfl, ?_, upF_len _ _⟩
    have := List.length_pos_iff.2 (upI_ne hk)
    unfold dpt
    omega
set_option maxRecDepth 4000 in
theorem T_rdown (ps : List Int) (hl : ps.length ≤ 1000) : T Tryz.prog 66 [.sl .no (ints' ps)] (.sl .no (ints' (downI (heldI ps)))) := by
  have kh := T_jrheld ps (by omega)
  have hql := heldI_len ps
  have kd := fun i : Int => T_rdepth (heldI ps) i (by omega)
  rw [held_held] at kd
  rw [down_levels]
  generalize heldI ps = q at *
  refine T.introF (TS.body mix Tryz.func66 (by kernel_rfl) rfl (by kernel_rfl) (by simp) ?_)
  simp
  refine TS.callW kh (Dws.self (by simp)) ?_
  simp
  refine vc_loop (fun d : Nat => q.length - d) (fun d e H => e 3 = .sl .no (ints' q) ∧ e 5 = .int .i64 d ∧ d ≤ q.length ∧ Grow1 1 H (e 4) (ints' (lvsN q q.length d))) 0 ?_ ?_
  · simp
    exact .inl ⟨rfl, rfl⟩
  rintro d e H ⟨e3, e5, hd, hg⟩
  by_cases hdt : d < q.length
  case neg =>
    have : d = q.length := by omega
    subst this
    simp [e3, e5]
    obtain ⟨own, ho⟩ := hg.own
    rw [ho]
    exact Frz.slN
  have ewd := wrap_next hdt (by omega)
  have hvl := lvsN_len q q.length d
  have hvb : d * q.length ≤ 1000 * 1000 := Nat.mul_le_mul (by omega) (by omega)
  simp [e3, e5, hdt]
  refine vc_loop (fun k : Nat => q.length - k) (fun k e H => e 3 = .sl .no (ints' q) ∧ e 5 = .int .i64 d ∧ e 6 = .int .i64 k ∧ k ≤ q.length ∧ Grow1 1 H (e 4) (ints' (lvsN q q.length d ++ lvN q d k))) 0 ?_ ?_
  · simp [e3, e5, lvN]
    exact hg
  clear e3 e5 hg e H
  rintro k e H ⟨e3, e5, e6, hk, hg⟩
  by_cases hlt : k < q.length
  · have ew := wrap_next hlt (by omega)
    have hnx := lvN_next q d k
    have hcl := lvN_len q d k
    simp [e3, e5, e6, hlt]
    refine TS.callW (kd k) (Dws.self (by simp)) ?_
    by_cases c : dpt q (k : Nat) = d + 1
    · have c2 : (dpt q (k : Nat) : Int) - 1 = d := by omega
      rw [if_pos c] at hnx
      rcases hg with ⟨ge, hg⟩ | ⟨t, hg, ht⟩
      · rw [avs_eq_nil] at ge
        simp [e3, e5, e6, hlt, c2, hg]
        refine ⟨k + 1, by omega, ew, by omega, ?_⟩
        rw [hnx, ← List.append_assoc, ge]
        exact Grow1.first (f := AV.int .i64) (l := []) rfl rfl
      · simp [e3, e5, e6, hlt, c2, hg, ht]
        refine ⟨⟨by omega, by omega⟩, k + 1, by omega, ew, by omega, ?_⟩
        rw [hnx, ← List.append_assoc]
        have := Grow1.more (f := AV.int .i64) (l := lvsN q q.length d ++ lvN q d k) (a := (k : Int)) (n := (lvsN q q.length d ++ lvN q d k).length + 1) ht rfl
        simpa using this
    · have c2 : ¬ (dpt q (k : Nat) : Int) - 1 = d := by omega
      rw [if_neg c, List.append_nil] at hnx
      simp [e3, e5, e6, hlt, c2]
      exact ⟨k + 1, by omega, ew, by omega, by rw [hnx]; exact hg⟩
  · have : k = q.length := by omega
    subst this
    simp [e3, e5, e6]
    exact ⟨d + 1, by omega, ewd, by omega, hg⟩
end Go.Proofs.YtjplcdeaedflpaaGreatDoor.PL
namespace Go.Proofs.YtjplcdeaedflpaaGreatDoor.PL
open Go.Proofs
set_option linter.unusedVariables false
set_option linter.unusedSimpArgs false
theorem Gy.Up.split {f : Nat → Option Nat} {i : Nat} {U : List Nat} (h : Gy.Up f i U) : ∀ {c : Nat}, c ∈ U → ∃ P R, U = P ++ c :: R ∧ Gy.Up f c (c :: R) := by
  induction h with
  | root h =>
    intro c hc
    simp at hc
    subst hc
    exact ⟨[], [], rfl, .root h⟩
  | @step i p U h t ih =>
    intro c hc
    rcases List.mem_cons.1 hc with rfl | hc
    · exact ⟨[], U, rfl, .step h t⟩
    · obtain ⟨P, R, h1, h2⟩ := ih hc
      exact ⟨i :: P, R, by rw [h1]; rfl, h2⟩
end Go.Proofs.YtjplcdeaedflpaaGreatDoor.PL
namespace Go.Proofs.YtjplcdeaedflpaaGreatDoor.PL
open Go.Proofs Go.RowKit
set_option linter.unusedVariables false
set_option linter.unusedSimpArgs false
attribute [local go_sem] Oper.semAt_some
/-- a box's value -/
theorem box_val {w0 : Bs} {Γ : Gh} {H : List HO} {w : World} (hr : R w0 Γ H w) {k b0 : Nat} {x : AV} (hk : H[k]? = some (.box [x])) (hB : Γ.B k = some b0) : ∃ v, w.cell? ⟨b0, 0, none⟩ = some v ∧ VR Γ x v := by
  obtain ⟨bs, hobj, _⟩ := hr.obj
  obtain ⟨_, h1, ⟨vals, e, h2, h3⟩, h4, h5⟩ := hobj k _ hk rfl
  rw [hB] at h1
  injection h1 with h1
  rw [← h1] at h2
  obtain ⟨vl, hvl⟩ : ∃ vl, vl = vals.toList := ⟨_, rfl⟩
  rw [← hvl] at h3
  cases h3 with
  | @cons _ v _ _ h t =>
  cases t
  refine ⟨v, ?_, h⟩
  have hv0 : vals[0]? = some v := by rw [← Array.getElem?_toList, ← hvl]; rfl
  simp [World.cell?, h2, hv0]
/-- numbers that stay, in memory -/
theorem ints_val {w0 : Bs} {Γ : Gh} {H : List HO} {w : World} (hr : R w0 Γ H w) {own : Own} {l : List Int} {v : Value} (h : VR Γ (.sl own (ints' l)) v) (h0 : l ≠ []) :
    ∃ b o cap, v = .slice (some ⟨b, o, none⟩) l.length cap ∧ ∀ (w0 : Bs) (Γ' : Gh) (H' : List HO) (w' : World), Gh.Le Γ Γ' → R w0 Γ' H' w' → ∀ j, j < l.length → w'.cell? ⟨b, o + j, none⟩ = some (.int .i64 (l[j]?.getD 0)) := by
  generalize hxs : ints' l = xs at h
  cases h with
  | @sl0 own a cap ho =>
    rw [avs_eq_nil] at hxs
    exact absurd hxs h0
  | @sl own xs vs b o cap n sz hn hs h1' h' hi ho hc =>
    subst hxs
    have e1 := VRs_ints_eq (l := l) (vs := vs) (by simpa using h')
    rw [avs_length] at hn
    refine ⟨b, o, cap, by rw [hn], fun w0 Γ' H' w' le hr' j hj => ?_⟩
    have := hr'.imm _ _ _ (le.I _ _ _ (hi j (.int .i64 l[j]) (by rw [e1]; simp [hj])))
    rw [this]
    simp [hj]
theorem nil_val {Γ : Gh} {own : Own} {v : Value} (h : VR Γ (.sl own (ints' [])) v) : ∃ p cap, v = .slice p 0 cap := by
  cases h with
  | @sl0 own a cap ho => exact ⟨a, cap, rfl⟩
  | @sl own xs vs b o cap n sz hn hs h1' h' hi ho hc => exact ⟨some ⟨b, o, none⟩, cap, by rw [hn]; rfl⟩
/-- each node but the root, and its parent -/
def parOf (ps : List Int) (n : Int) : Int := ps.getD n.toNat (-1)
def belowP (ps Z : List Int) : List (Int × Int) := (Z.filter fun n => decide (0 ≤ parOf ps n)).map fun n => (n, parOf ps n)
abbrev halfIn (p : Int × Int) : List AV := [.int .i64 p.1, .int .i64 p.2]
theorem below_next {ps Z : List Int} {k : Nat} (h : k < Z.length) : belowP ps (Z.take (k + 1)) = belowP ps (Z.take k) ++ if 0 ≤ parOf ps Z[k] then [(Z[k], parOf ps Z[k])] else [] := by
  unfold belowP
  rw [take_next h, List.filter_append, List.map_append]
  by_cases hp : 0 ≤ parOf ps Z[k] <;> simp [hp]
theorem below_split (ps Z : List Int) (k : Nat) : belowP ps Z = belowP ps (Z.take k) ++ belowP ps (Z.drop k) := by
  unfold belowP
  rw [← List.map_append, ← List.filter_append, List.take_append_drop]
theorem below_at {ps Z : List Int} {k : Nat} (h : k < Z.length) (hp : 0 ≤ parOf ps Z[k]) : (belowP ps (Z.take k)).length < (belowP ps Z).length ∧ ((belowP ps Z).map halfIn).getD (belowP ps (Z.take k)).length [] = [.int .i64 Z[k], .int .i64 (parOf ps Z[k])] := by
  have h1 := below_next (ps := ps) h
  rw [if_pos hp] at h1
  have h2 := below_split ps Z (k + 1)
  rw [h1, List.append_assoc] at h2
  rw [h2]
  refine ⟨by simp, ?_⟩
  rw [List.map_append, List.getD_eq_getElem?_getD, List.getElem?_append_right (by simp)]
  simp
theorem down_in {ps : List Int} {x : Int} (h : x ∈ downI (heldI ps)) : heldI ps = ps ∧ ∃ m : Nat, x = m ∧ m < ps.length := by
  have hx := (downI_of (heldI ps)).1.mem_iff.1 h
  unfold upTo at hx
  obtain ⟨m, hm, rfl⟩ := List.mem_map.1 hx
  have hm := List.mem_range.1 hm
  have hh : heldI ps = ps := by
    unfold heldI at hm ⊢
    split at hm
    · rename_i ht; rw [if_pos ht]
    · simp at hm
  rw [hh] at hm
  exact ⟨hh, m, rfl, hm⟩
set_option maxRecDepth 100000 in
set_option maxHeartbeats 2000000 in
theorem below_it (ps : List Int) (hl : ps.length < 60) (kc : Nat) : ItC Tryz.prog 105 [.ptr kc 0] ((belowP ps (downI (heldI ps))).map halfIn) (fun H => H[kc]? = some (.box [.sl .no (ints' ps)])) := by
  intro w0 l Γ1 Inv hFix hY Γ H W lb le r hInv hcaps
  obtain ⟨Z, hZ⟩ : ∃ Z, Z = downI (heldI ps) := ⟨_, rfl⟩
  have kd := T_down ps hl
  rw [← hZ] at kd hY ⊢
  cases hcaps with
  | cons h t =>
  cases t
  cases h with
  | @ptr _ _ b0 hB =>
  have hk0 := hFix 0 H hInv
  obtain ⟨v5, hc5, hv5⟩ := box_val r hk0 hB
  have hX := (TS.of_T (H := H) (K := pt (.sl .no (ints' Z)) H) kd (.cons (Cl.self (by simp)) .nil) ⟨rfl, rfl⟩) w0 Γ W [v5] r (.cons hv5 .nil)
  have hX2 := callsIn_wide (n := 0) |>.2 (hX.calls ⟨_, Tryz.func106, by kernel_rfl, by kernel_rfl⟩)
  refine callsIn_of_wp Tryz.func105 rfl trivial ?_ rfl
  simp only [Tryz.ntmps105, List.size_toArray, List.length_cons, List.length_nil, Nat.reduceAdd, Nat.reduceSub, Array.replicate_succ, Array.replicate_zero, List.push_toArray, List.append_toArray, List.nil_append, List.cons_append]
  gi_wp2
  refine ⟨trivial, hX2.mono ?_⟩
  rintro e w' ⟨Γ', v6, r6, H', rfl, le', hv6, r', rfl, rfl⟩
  by_cases hZ0 : Z = []
  · subst hZ0
    obtain ⟨p6, cap6, rfl⟩ := nil_val hv6
    gi_wp2
    gi_loopw [8] (fun i wr => i = .int .i64 0 ∧ ∃ Γ2 H2, Gh.Le Γ Γ2 ∧ R w0 Γ2 H2 wr ∧ Inv 0 H2) (fun _ _ => 0)
    case atStart => exact ⟨rfl, Γ', _, le', r', hInv⟩
    case round =>
      obtain ⟨rfl, Γ2, H2, le2, r2, hi2⟩ := hrel
      gi_wp2
      go_end0
      exact ⟨⟨_, rfl⟩, Γ2, H2, le2, r2, hi2⟩
  · have hin : ∀ k (h : k < Z.length), ∃ m : Nat, Z[k] = m ∧ m < ps.length := fun k h => by
      have := List.getElem_mem h
      subst hZ
      exact (down_in this).2
    have hZl : 0 < Z.length := List.length_pos_iff.2 hZ0
    have hZn : Z.length < 60 := by
      have h1 := heldI_len ps
      rw [hZ, downI_len]
      omega
    clear hX hX2 hk0 hv5 hc5 kd hZ
    have hps0 : ps ≠ [] := by
      obtain ⟨m, _, hm⟩ := hin 0 hZl
      intro h
      rw [h] at hm
      cases hm
    obtain ⟨b6, o6, cap6, rfl, hcz⟩ := ints_val r' hv6 hZ0
    gi_wp2
    gi_loopw [8] (fun i wr => ∃ k : Nat, k ≤ Z.length ∧ i = .int .i64 k ∧ ∃ Γ2 H2, Gh.Le Γ' Γ2 ∧ R w0 Γ2 H2 wr ∧ Inv (belowP ps (Z.take k)).length H2) (fun i _ => Z.length - (intOf i).toNat)
    case atStart => exact ⟨0, Nat.zero_le _, rfl, Γ', _, Gh.Le.refl _, r', hInv⟩
    case round =>
      obtain ⟨k, hk, rfl, Γ2, H2, le2, r2, hi2⟩ := hrel
      have hw : wrap64 ((k : Int) + 1) = (k : Int) + 1 := by unfold wrap64; omega
      by_cases hlt : k < Z.length
      · obtain ⟨m, hm1, hm2⟩ := hin k hlt
        have hcell := hcz w0 Γ2 H2 wr le2 r2 k hlt
        have hzk : Z[k]?.getD 0 = (m : Int) := by rw [List.getElem?_eq_getElem hlt]; exact hm1
        rw [hzk] at hcell
        obtain ⟨v7, hc7, hv7⟩ := box_val r2 (hFix _ H2 hi2) ((le'.trans le2).B _ _ hB)
        obtain ⟨b7, o7, cap7, rfl, hcp⟩ := ints_val r2 hv7 hps0
        have hpar := hcp w0 Γ2 H2 wr (Gh.Le.refl _) r2 m hm2
        obtain ⟨p, hp⟩ : ∃ p, p = ps[m]?.getD 0 := ⟨_, rfl⟩
        rw [← hp] at hpar
        have hpo : parOf ps Z[k] = p := by
          unfold parOf
          rw [hm1, Int.toNat_natCast, List.getD_eq_getElem?_getD, List.getElem?_eq_getElem hm2, hp, List.getElem?_eq_getElem hm2]
          rfl
        have hnx := below_next (ps := ps) hlt
        by_cases h0 : 0 ≤ p
        · have hat := below_at hlt (by rw [hpo]; exact h0)
          rw [hpo] at hnx hat
          rw [if_pos h0] at hnx
          rw [hm1] at hat
          obtain ⟨fn, tmps, assign, body, hy, hR⟩ := hY _ Γ2 H2 wr [.int .i64 (m : Int), .int .i64 p] (by rw [List.length_map]; exact hat.1) ((le.trans le').trans le2) r2 hi2 (by rw [hat.2]; exact .cons (.int _ _) (.cons (.int _ _) .nil))
          clear hp hcp hv7 hzk hat hcz 
          gi_wp2
          refine hR.mono ?_
          rintro e W3 ⟨rfl, Γ3, H3, le3, r3, hi3⟩
          gi_wp2
          go_roundw
          case rel => exact ⟨k + 1, by omega, by simp [hw], Γ3, H3, le2.trans le3, r3, by rw [hnx, List.length_append]; exact hi3⟩
          case measure => simp [intOf, hw]; omega
        · rw [hpo, if_neg h0, List.append_nil] at hnx
          clear hp hcp hv7 hzk hcz
          gi_wp2
          refine ⟨fun _ h => trivial, ?_⟩
          gi_wp2
          go_roundw
          case rel => exact ⟨k + 1, by omega, by simp [hw], Γ2, H2, le2, r2, by rw [hnx]; exact hi2⟩
          case measure => simp [intOf, hw]; omega
      · obtain rfl : k = Z.length := by omega
        rw [List.take_length] at hi2
        clear hcz
        gi_wp2
        go_end0
        exact ⟨⟨_, rfl⟩, Γ2, H2, le'.trans le2, r2, by rw [List.length_map]; exact hi2⟩
end Go.Proofs.YtjplcdeaedflpaaGreatDoor.PL
namespace Go.Proofs.YtjplcdeaedflpaaGreatDoor.PL
open Go.Proofs
set_option linter.unusedVariables false
set_option linter.unusedSimpArgs false
structure Col where
  name : ByteArray
  kind : Int
abbrev Col.av (c : Col) : AV := .agg [.str c.name, .int .i64 c.kind]
instance : Sized Col.av 2 := ⟨fun _ => rfl⟩
instance : Plain Col.av := ⟨fun _ => rfl⟩
structure Tab where
  name : ByteArray
  cols : List Col
  rows : List (List Val)
abbrev Tab.cs (t : Tab) : List AV := [.str t.name, .sl .no (avs Col.av t.cols), .sl .no (rows' t.rows)]
abbrev Tab.av (t : Tab) : AV := .agg t.cs
instance : Sized Tab.av 3 := ⟨fun _ => rfl⟩
instance : Plain Tab.av := ⟨fun _ => by simp⟩
instance : LawfulBEq ByteArray where
  eq_of_beq {a b} h := by rw [bytes_beq] at h; simpa using h
  rfl {a} := by rw [bytes_beq]; simp
end Go.Proofs.YtjplcdeaedflpaaGreatDoor.PL
namespace Go.Proofs.YtjplcdeaedflpaaGreatDoor.PL
open Go.Proofs
set_option linter.unusedVariables false
set_option linter.unusedSimpArgs false

theorem T_same04 (r : List Val) (hl : r.length < 4611686018427387904) : T Tryz.prog 47 [rowA r, rowA r] (.bool true) := by
  refine T.intro (TS.body mix Tryz.func47 (by kernel_rfl) rfl (by kernel_rfl) (by simp) ?_)
  simp
  refine vc_loop (fun i : Nat => r.length - i) (fun i e H => e 0 = rowA r ∧ e 1 = rowA r ∧ e 5 = .int .i64 i ∧ i ≤ r.length) 0 ?_ ?_
  · simp
  rintro i e H ⟨h0, h1, h5, hi⟩
  by_cases h : i < r.length
  · have ew := wrap_next h (by omega)
    simp [h0, h1, h5, h]
    refine TDK.call' (T_rsame r[i] r[i]) (by simp) ?_
    simp [h0, h1, h5, h]
    exact ⟨i + 1, by omega, ew, by omega⟩
  · have : i = r.length := by omega
    subst this
    simp [h0, h1, h5]
theorem T_sameList04 (rs : List (List Val)) (hl : rs.length < 4611686018427387904) (hr : ∀ r, r ∈ rs → r.length < 4611686018427387904) : T Tryz.prog 50 [.sl .no (rows' rs), .sl .no (rows' rs)] (.bool true) := by
  refine T.intro (TS.body mix Tryz.func50 (by kernel_rfl) rfl (by kernel_rfl) (by simp) ?_)
  simp
  refine vc_loop (fun i : Nat => rs.length - i) (fun i e H => e 0 = .sl .no (rows' rs) ∧ e 1 = .sl .no (rows' rs) ∧ e 5 = .int .i64 i ∧ i ≤ rs.length) 0 ?_ ?_
  · simp
  rintro i e H ⟨h0, h1, h5, hi⟩
  by_cases h : i < rs.length
  · have ew := wrap_next h (by omega)
    have hm := hr _ (List.getElem_mem h)
    simp [h0, h1, h5, h]
    refine TDK.call' (T_same04 rs[i] hm) (by simp) ?_
    simp [h0, h1, h5, h]
    exact ⟨i + 1, by omega, ew, by omega⟩
  · have : i = rs.length := by omega
    subst this
    simp [h0, h1, h5]


end Go.Proofs.YtjplcdeaedflpaaGreatDoor.PL
namespace Go.Proofs.YtjplcdeaedflpaaGreatDoor.PL
open Go.Proofs
set_option linter.unusedVariables false
set_option linter.unusedSimpArgs false
instance : Selfs Val.av := ⟨fun a x h => by simp at h; rcases h with rfl | rfl | rfl <;> simp⟩
def GrowN (sz : Nat) (H : List HO) (x : AV) (xs : List AV) : Prop := (xs = [] ∧ (x = .sl .nil [] ∨ x = .sl .exact [])) ∨ ∃ t, x = .sl (.tok t) xs ∧ H[t]? = some (.spare xs.length sz)
theorem GrowN.own {sz : Nat} {H : List HO} {x : AV} {xs : List AV} (h : GrowN sz H x xs) : ∃ own, x = .sl own xs := by
  rcases h with ⟨rfl, h | h⟩ | ⟨t, h, _⟩
  · exact ⟨_, h⟩
  · exact ⟨_, h⟩
  · exact ⟨_, h⟩
end Go.Proofs.YtjplcdeaedflpaaGreatDoor.PL
namespace Go.Proofs.YtjplcdeaedflpaaGreatDoor.PL
open Go.Proofs
set_option linter.unusedVariables false
set_option linter.unusedSimpArgs false
def zV4 : Val := ⟨0, 0, ByteArray.empty⟩
def nuls (n : Nat) : List Val := List.replicate n zV4
def nulN (k : Int) : Nat := (min (max k 0) 65536).toNat
theorem nuls_flat (n : Nat) : (vals' (nuls n)).flatMap AV.cells = repeatA [.int .i64 0, .int .i64 0, .str ByteArray.empty] n := by
  induction n with
  | zero => rfl
  | succ n ih =>
    have e : vals' (nuls (n + 1)) = Val.av zV4 :: vals' (nuls n) := by unfold nuls; rw [List.replicate_succ]; rfl
    rw [e, List.flatMap_cons, ih, repeatA]
    rfl
theorem S_nulls (H : List HO) (k : Int) : TS Tryz.prog 119 [.int .i64 k] H (pt (.mv H.length (nulN k) 3 0 (nulN k)) (H ++ [.row (nulN k) 3 ((vals' (nuls (nulN k))).flatMap AV.cells)])) := by
  have e : (if 65536 < if k < 0 then 0 else k then 65536 else if k < 0 then 0 else k) = (nulN k : Int) := by
    unfold nulN
    split <;> split <;> omega
  have hb : nulN k ≤ 65536 := by unfold nulN; omega
  refine TS.body mix Tryz.func119 (by kernel_rfl) rfl (by kernel_rfl) (by simp) ?_
  simp
  rw [e, nuls_flat]
  simp
  omega
def pickF (r : List Val) (p : Int) : Val := if 0 ≤ p ∧ p < r.length then r.getD p.toNat zV4 else zV4
theorem pickF_in {r : List Val} {k : Nat} (h : k < r.length) : pickF r k = r[k] := by
  unfold pickF
  rw [if_pos (by omega)]
  simp [h]
theorem pickF_out {r : List Val} {p : Int} (h : ¬ (0 ≤ p ∧ p < r.length)) : pickF r p = zV4 := if_neg h
theorem T_pick4 (r : List Val) (ps : List Int) (hr : r.length < 4611686018427387904) (hp : ps.length ≤ 1000) : T Tryz.prog 100 [rowA r, .sl .no (ints' ps)] (rowA (ps.map (pickF r))) := by
  have k0 := S_nulls [] (ps.length : Int)
  have hN : nulN (ps.length : Int) = ps.length := by unfold nulN; omega
  rw [hN] at k0
  refine T.introF (TS.body mix Tryz.func100 (by kernel_rfl) rfl (by kernel_rfl) (by simp) ?_)
  simp
  refine TS.pt k0 ?_
  simp
  refine vc_loop (fun i : Nat => ps.length - i) (fun i e H => e 0 = rowA r ∧ e 5 = .mv 0 ps.length 3 0 ps.length ∧ e 11 = .sl .no (ints' ps) ∧ e 12 = .int .i64 ps.length ∧ e 13 = .int .i64 i ∧ i ≤ ps.length ∧ ∃ M : List Val, M = (ps.map (pickF r)).take i ++ nuls (ps.length - i) ∧ H = [.row ps.length 3 ((vals' M).flatMap AV.cells)]) 0 ?_ ?_
  · simp
  rintro i e H ⟨e0, e5, e11, e12, e13, hi, M, hM, rfl⟩
  by_cases hlt : i < ps.length
  · have ew := wrap_next hlt (by omega)
    have hMl : M.length = ps.length := by rw [hM]; simp [nuls]; omega
    have hMi : i < M.length := by omega
    have htl : ((ps.map (pickF r)).take i).length = i := by simp; omega
    have hnz : nuls (ps.length - i) = zV4 :: nuls (ps.length - (i + 1)) := by
      unfold nuls
      rw [show ps.length - i = (ps.length - (i + 1)) + 1 by omega, List.replicate_succ]
    rw [hnz] at hM
    have hat : M[i] = zV4 := by
      subst hM
      rw [List.getElem_append_right (by omega)]
      simp [htl]
    have hnx : M.set i (pickF r ps[i]) = (ps.map (pickF r)).take (i + 1) ++ nuls (ps.length - (i + 1)) := by
      rw [hM, List.set_append, if_neg (by omega), htl, Nat.sub_self, List.set_cons_zero, take_next (by simpa using hlt), List.append_assoc]
      simp
    have hml := flatA_len (f := Val.av) (sz := 3) M
    rw [List.length_flatMap] at hml
    by_cases hin : 0 ≤ ps[i] ∧ ps[i] < r.length
    · obtain ⟨k, hk, ek⟩ : ∃ k : Nat, k < r.length ∧ ps[i] = k := ⟨ps[i].toNat, by omega, by omega⟩
      have hput := flatA_put (f := Val.av) M hMi (k := 0) (new := (r[k]).av.cells) (a := r[k]) (by simp) (by simp)
      rw [ek, pickF_in hk] at hnx
      rw [hnx] at hput
      have h0k : (0 : Int) ≤ k := by omega
      simp at hput
      simp [e0, e5, e11, e12, e13, hlt, ek, hk, h0k]
      exact ⟨by rw [hml]; omega, i + 1, by omega, ew, by omega, hput⟩
    · rw [pickF_out hin] at hnx
      have hsame : M.set i zV4 = M := by rw [← hat]; exact List.set_getElem_self hMi
      rw [hsame] at hnx
      simp [e0, e5, e11, e12, e13, hlt]
      refine condK_of (fun h => absurd (by simpa using h) hin) (fun h => ?_)
      simp [e0, e5, e11, e12, e13, hlt]
      exact ⟨i + 1, by omega, ew, by omega, by rw [hnx]⟩
  · have hil : i = ps.length := by omega
    subst hil
    have hM2 : M = ps.map (pickF r) := by rw [hM, List.take_of_length_le (by simp)]; simp [nuls]
    rw [hM2]
    simp [e0, e5, e11, e12, e13]
    exact Frz.mvA (f := Val.av) (sz := 3) rfl (by simp)
end Go.Proofs.YtjplcdeaedflpaaGreatDoor.PL
namespace Go.Proofs.YtjplcdeaedflpaaGreatDoor.PL
open Go.Proofs
set_option linter.unusedVariables false
set_option linter.unusedSimpArgs false
theorem ints_vals (a b : Int) : ints a b = -1 ∨ ints a b = 0 ∨ ints a b = 1 := by unfold ints; grind
theorem order_vals (a b : Val) : order a b = -1 ∨ order a b = 0 ∨ order a b = 1 := by
  unfold order
  split
  · exact ints_vals _ _
  · split
    · exact ints_vals _ _
    · exact texts_vals _ _
end Go.Proofs.YtjplcdeaedflpaaGreatDoor.PL
