/- RowsSorts: rows in order. -/
import Derived.Test.YtaahlhhpmooliaaDoorFStab4
namespace Go.Proofs.YtaahlhhpmooliaaDoor.PL
open Go.Proofs
set_option linter.unusedVariables false
set_option linter.unusedSimpArgs false
theorem orderR_swap : ∀ a b : List Val, orderR b a = - orderR a b
  | [], [] => rfl
  | [], _ :: _ => rfl
  | _ :: _, [] => rfl
  | x :: a, y :: b => by
    simp only [orderR]
    rw [order_swap x y, orderR_swap a b]
    by_cases h : order x y = 0
    · rw [if_pos h, if_pos (by omega)]
    · rw [if_neg h, if_neg (by omega)]
theorem orderR_zero : ∀ {a b : List Val}, orderR a b = 0 → a = b
  | [], [], _ => rfl
  | [], _ :: _, h => by cases h
  | _ :: _, [], h => by cases h
  | x :: a, y :: b, h => by
    simp only [orderR] at h
    by_cases h0 : order x y = 0
    · rw [if_pos h0] at h
      rw [order_eq h0, orderR_zero h]
    · rw [if_neg h0] at h; exact absurd h h0
theorem orderR_trans : ∀ {a b c : List Val}, orderR a b ≤ 0 → orderR b c ≤ 0 → orderR a c ≤ 0
  | [], _, [], _, _ => by simp [orderR]
  | [], _, _ :: _, _, _ => by simp [orderR]
  | x :: a, [], c, h1, _ => by simp [orderR] at h1
  | x :: a, y :: b, [], _, h2 => by simp [orderR] at h2
  | x :: a, y :: b, z :: c, h1, h2 => by
    simp only [orderR] at h1 h2 ⊢
    by_cases e1 : order x y = 0
    · have := order_eq e1
      subst this
      rw [if_pos e1] at h1
      by_cases e2 : order x z = 0
      · rw [if_pos e2] at h2 ⊢
        exact orderR_trans h1 h2
      · rw [if_neg e2] at h2 ⊢; exact h2
    · rw [if_neg e1] at h1
      by_cases e2 : order y z = 0
      · have := order_eq e2
        subst this
        rw [if_neg e1]; exact h1
      · rw [if_neg e2] at h2
        have h3 := order_trans h1 h2
        by_cases e3 : order x z = 0
        · have := order_eq e3
          subst this
          have := order_swap x y
          omega
        · rw [if_neg e3]; exact h3
def leR (a b : List Val) : Prop := orderR a b ≤ 0
def sortR (l : List (List Val)) : List (List Val) := l.mergeSort fun a b => decide (orderR a b ≤ 0)
theorem sortR_perm (l : List (List Val)) : (sortR l).Perm l := List.mergeSort_perm l _
theorem sortR_le (l : List (List Val)) : (sortR l).Pairwise leR := by
  have := List.pairwise_mergeSort (le := fun a b => decide (orderR a b ≤ 0)) (fun a b c h1 h2 => by simp at *; exact orderR_trans h1 h2) (fun a b => by simp; have := orderR_swap a b; omega) l
  exact this.imp fun h => by unfold leR; simpa using h
theorem sortR_eq {l Z : List (List Val)} (hp : Z.Perm l) (hs : Z.Pairwise leR) : Z = sortR l :=
  List.Perm.eq_of_pairwise (fun a b _ _ h1 h2 => orderR_zero (by unfold leR at h1 h2; have := orderR_swap a b; omega)) hs (sortR_le l) (hp.trans (sortR_perm l).symm)
theorem sortR_congr {l m : List (List Val)} (h : l.Perm m) : sortR l = sortR m := sortR_eq ((sortR_perm l).trans h) (sortR_le l)
theorem sortR_iff {l m : List (List Val)} : sortR l = sortR m ↔ l.Perm m := ⟨fun h => (sortR_perm l).symm.trans (h ▸ sortR_perm m), sortR_congr⟩
theorem sortR_len (l : List (List Val)) : (sortR l).length = l.length := (sortR_perm l).length_eq
theorem perm_counts {α : Type} [BEq α] [LawfulBEq α] : ∀ {a b : List α}, a.length = b.length → (∀ x, x ∈ a → a.count x = b.count x) → a.Perm b
  | [], b, h, _ => by rw [List.eq_nil_of_length_eq_zero (l := b) (by simpa using h.symm)]
  | x :: a, b, h, hc => by
    have hx := hc x List.mem_cons_self
    rw [List.count_cons_self] at hx
    have hm : x ∈ b := List.count_pos_iff.1 (by omega)
    have hp := List.perm_cons_erase hm
    refine (List.Perm.cons x (perm_counts ?_ fun y hy => ?_)).trans hp.symm
    · rw [List.length_erase_of_mem hm]; simp at h; omega
    · have hy2 := hc y (List.mem_cons_of_mem _ hy)
      rw [hp.count_eq, List.count_cons, List.count_cons] at hy2
      omega
theorem cmpRow : ∀ {B : Nat}, B < 4611686018427387904 → True := fun _ => trivial
theorem cmp3R : Cmp3 25 orderR leR (fun _ _ => True) (fun x => x.length < 4611686018427387904) where
  cmp := fun x y hx hy => T_rowOrder x y hx hy
  trans := fun x y z h1 h2 => orderR_trans h1 h2
  total := fun x y h => by unfold leR at *; have := orderR_swap x y; omega
  link := fun x y _ => by unfold leR; have := orderR_swap x y; omega
theorem T_rowSort (l : List (List Val)) (hl : l.length < 60) (hr : ∀ r, r ∈ l → r.length < 4611686018427387904) : T Tryd.prog 29 [.sl .no (rows' l)] (.sl .no (rows' (sortR l))) := by
  have hd : List.drop l.length (repeatA [AV.sl .exact []] l.length) = [] := List.drop_eq_nil_of_le (by rw [repeatA_len]; simp)
  refine T.introF (TS.body mix Tryd.func29 (by kernel_rfl) rfl (by kernel_rfl) (by simp) ?_)
  simp
  rw [hd, List.append_nil]
  refine ⟨⟨by omega, by omega⟩, ?_⟩
  refine TS.mono (S_stab cmp3R [.row l.length 1 (rows' l)] 0 l.length l rfl hl rfl hr (List.pairwise_iff_getElem.2 fun _ _ _ _ _ => trivial)) ?_
  rintro _ _ ⟨rfl, Z, hp, hs, rfl⟩
  obtain rfl := sortR_eq hp hs
  have hz := sortR_len l
  simp
  rw [← hz]
  exact Frz.mvA (f := fun r => AV.sl .no (vals' r)) (sz := 1) (l := sortR l) (by simp) (by simp [avs])
theorem T_rowCount (l : List (List Val)) (r : List Val) (hl : l.length < 4611686018427387904) (hr : ∀ x, x ∈ l → x.length < 4611686018427387904) (hr2 : r.length < 4611686018427387904) : T Tryd.prog 33 [.sl .no (rows' l), rowA r] (.int .i64 (l.count r : Nat)) := by
  refine T.intro (TS.body mix Tryd.func33 (by kernel_rfl) rfl (by kernel_rfl) (by simp) ?_)
  simp
  refine vc_loop (fun i : Nat => l.length - i) (fun i e H => e 1 = rowA r ∧ e 5 = .int .i64 ((l.take i).count r : Nat) ∧ e 8 = .sl .no (rows' l) ∧ e 9 = .int .i64 l.length ∧ e 10 = .int .i64 i ∧ i ≤ l.length) 0 ?_ ?_
  · simp
  rintro i e H ⟨h1, h5, h8, h9, h10, hi⟩
  by_cases hlt : i < l.length
  · have ew := wrap_next hlt (by omega)
    have k := T_rowSame l[i] r (hr _ (List.getElem_mem hlt)) hr2
    have hcl : (l.take i).count r ≤ i := Nat.le_trans List.count_le_length (by simp; omega)
    have hnx : (l.take (i + 1)).count r = (l.take i).count r + (if l[i] = r then 1 else 0) := by
      rw [take_next hlt, List.count_append, List.count_singleton]; simp
    simp [h1, h5, h8, h9, h10, hlt]
    refine TS.callW k (Dws.self (by simp)) ?_
    by_cases hc : l[i] = r
    · rw [if_pos hc] at hnx
      have ew2 : IntKind.i64.wrap (((l.take i).count r : Int) + 1) = ((l.take (i + 1)).count r : Nat) := by rw [hnx, wrap_i64 (by omega) (by omega)]; omega
      simp [h1, h5, h8, h9, h10, hlt, hc]
      exact ⟨i + 1, by omega, ew2, ew, by omega⟩
    · rw [if_neg hc] at hnx
      simp [h1, h5, h8, h9, h10, hlt, hc]
      exact ⟨i + 1, by omega, by rw [hnx, Nat.add_zero], ew, by omega⟩
  · have : i = l.length := by omega
    subst this
    rw [List.take_length] at h5
    simp [h1, h5, h8, h9, h10]
theorem T_rrowCount (l : List (List Val)) (r : List Val) (hl : l.length < 4611686018427387904) (hr : ∀ x, x ∈ l → x.length < 4611686018427387904) (hr2 : r.length < 4611686018427387904) : T Tryd.prog 34 [.sl .no (rows' l), rowA r] (.int .i64 (l.count r : Nat)) := by
  refine T.intro (TS.body mix Tryd.func34 (by kernel_rfl) rfl (by kernel_rfl) (by simp) ?_)
  simp
  refine vc_loop (fun i : Nat => l.length - i) (fun i e H => e 0 = .sl .no (rows' l) ∧ e 1 = rowA r ∧ e 5 = .int .i64 ((l.take i).count r : Nat) ∧ e 6 = .int .i64 i ∧ i ≤ l.length) 0 ?_ ?_
  · simp
  rintro i e H ⟨h0, h1, h5, h6, hi⟩
  by_cases hlt : i < l.length
  · have ew := wrap_next hlt (by omega)
    have k := T_rrowSame l[i] r (hr _ (List.getElem_mem hlt)) hr2
    have hcl : (l.take i).count r ≤ i := Nat.le_trans List.count_le_length (by simp; omega)
    have hnx : (l.take (i + 1)).count r = (l.take i).count r + (if l[i] = r then 1 else 0) := by
      rw [take_next hlt, List.count_append, List.count_singleton]; simp
    simp [h0, h1, h5, h6, hlt]
    refine TS.callW k (Dws.self (by simp)) ?_
    by_cases hc : l[i] = r
    · rw [if_pos hc] at hnx
      have ew2 : IntKind.i64.wrap (((l.take i).count r : Int) + 1) = ((l.take (i + 1)).count r : Nat) := by rw [hnx, wrap_i64 (by omega) (by omega)]; omega
      simp [h0, h1, h5, h6, hlt, hc]
      exact ⟨i + 1, by omega, ew2, ew, by omega⟩
    · rw [if_neg hc] at hnx
      simp [h0, h1, h5, h6, hlt, hc]
      exact ⟨i + 1, by omega, by rw [hnx, Nat.add_zero], ew, by omega⟩
  · have : i = l.length := by omega
    subst this
    rw [List.take_length] at h5
    simp [h0, h1, h5, h6]
def bagB (a b : List (List Val)) : Bool := decide (sortR a = sortR b)
theorem T_rSameBag (a b : List (List Val)) (ha : a.length < 4611686018427387904) (hb : b.length < 4611686018427387904) (hra : ∀ x, x ∈ a → x.length < 4611686018427387904) (hrb : ∀ x, x ∈ b → x.length < 4611686018427387904) : T Tryd.prog 31 [.sl .no (rows' a), .sl .no (rows' b)] (.bool (bagB a b)) := by
  refine T.intro (TS.body mix Tryd.func31 (by kernel_rfl) rfl (by kernel_rfl) (by simp) ?_)
  simp
  by_cases hl : a.length = b.length
  · simp [hl]
    refine vc_loop (fun i : Nat => a.length - i) (fun i e H => e 0 = .sl .no (rows' a) ∧ e 1 = .sl .no (rows' b) ∧ e 5 = .int .i64 i ∧ i ≤ a.length ∧ ∀ x, x ∈ a.take i → a.count x = b.count x) 0 ?_ ?_
    · simp
    rintro i e H ⟨h0, h1, h5, hi, hc⟩
    by_cases hlt : i < a.length
    · have ew := wrap_next hlt (by omega)
      have hri := hra _ (List.getElem_mem hlt)
      have k1 := T_rrowCount a a[i] ha hra hri
      have k2 := T_rrowCount b a[i] hb hrb hri
      simp [h0, h1, h5, hlt]
      refine TDK.callW k1 (Dws.self (by simp)) ?_
      simp [h0, h1, h5, hlt]
      refine TDK.callW k2 (Dws.self (by simp)) ?_
      by_cases he : a.count a[i] = b.count a[i]
      · simp [h0, h1, h5, hlt, he]
        refine ⟨i + 1, by omega, ew, by omega, fun x hx => ?_⟩
        rw [take_next hlt, List.mem_append] at hx
        rcases hx with hx | hx
        · exact hc x hx
        · simp at hx; subst hx; exact he
      · have hne : bagB a b = false := by
          unfold bagB
          rw [decide_eq_false_iff_not, sortR_iff]
          exact fun h => he (h.count_eq _)
        have he' : ¬ ((a.count a[i] : Nat) : Int) = ((b.count a[i] : Nat) : Int) := by omega
        simp [h0, h1, h5, hlt, he', hne]
    · have : i = a.length := by omega
      subst this
      rw [List.take_length] at hc
      have hy : bagB a b = true := by
        unfold bagB
        rw [decide_eq_true_iff, sortR_iff]
        exact perm_counts hl hc
      simp [h0, h1, h5, hy]
  · have hl2 : ¬ (a.length : Int) = b.length := by omega
    have hne : bagB a b = false := by
      unfold bagB
      rw [decide_eq_false_iff_not, sortR_iff]
      exact fun h => hl h.length_eq
    simp [hl, hl2, hne]
theorem T_equalRows (a b : List (List Val)) (ha : a.length < 4611686018427387904) (hb : b.length < 4611686018427387904) (hra : ∀ x, x ∈ a → x.length < 4611686018427387904) (hrb : ∀ x, x ∈ b → x.length < 4611686018427387904) : T Tryd.prog 53 [.sl .no (rows' a), .sl .no (rows' b), .fn (.func 24) [] []] (.bool (decide (a = b))) := by
  refine T.intro (TS.body mix Tryd.func53 (by kernel_rfl) rfl (by kernel_rfl) (by simp) ?_)
  simp
  by_cases hl : a.length = b.length
  · simp [hl]
    refine vc_loop (fun i : Nat => a.length - i) (fun i e H => e 1 = .sl .no (rows' b) ∧ e 2 = .fn (.func 24) [] [] ∧ e 15 = .sl .no (rows' a) ∧ e 16 = .int .i64 a.length ∧ e 17 = .int .i64 i ∧ i ≤ a.length ∧ a.take i = b.take i) 0 ?_ ?_
    · simp [hl]
    rintro i e H ⟨e1, e2, e15, e16, e17, hi, heq⟩
    by_cases hlt : i < a.length
    · have hlt2 : i < b.length := by omega
      have ew := wrap_next hlt (by omega)
      have k := T_rowSame a[i] b[i] (hra _ (List.getElem_mem hlt)) (hrb _ (List.getElem_mem hlt2))
      simp [e1, e2, e15, e16, e17, hlt, hlt2]
      refine TS.callW k (Dws.self (by simp)) ?_
      by_cases hc : a[i] = b[i]
      · simp [e1, e2, e15, e16, e17, hlt, hlt2, hc]
        exact ⟨i + 1, by omega, ew, by omega, by rw [take_next hlt, take_next hlt2, heq, hc]⟩
      · have hne : ¬ a = b := by
          rintro rfl
          exact hc rfl
        simp [e1, e2, e15, e16, e17, hlt, hlt2, hc, hne]
    · have : i = a.length := by omega
      subst this
      have hab : a = b := by rwa [List.take_of_length_le (Nat.le_refl _), List.take_of_length_le (by omega)] at heq
      simp [e1, e2, e15, e16, e17, hab]
  · have hl2 : ¬ (a.length : Int) = b.length := by omega
    have hne : ¬ a = b := fun h => hl (by rw [h])
    simp [hl, hl2, hne]
theorem T_SameBag (a b : List (List Val)) (ha : a.length < 60) (hb : b.length < 60) (hra : ∀ x, x ∈ a → x.length < 4611686018427387904) (hrb : ∀ x, x ∈ b → x.length < 4611686018427387904) : T Tryd.prog 32 [.sl .no (rows' a), .sl .no (rows' b)] (.bool (bagB a b)) := by
  have k1 := T_rowSort a ha hra
  have k2 := T_rowSort b hb hrb
  have k3 := T_equalRows (sortR a) (sortR b) (by rw [sortR_len]; omega) (by rw [sortR_len]; omega) (fun x hx => hra x ((sortR_perm a).mem_iff.1 hx)) (fun x hx => hrb x ((sortR_perm b).mem_iff.1 hx))
  refine T.intro (TS.body mix Tryd.func32 (by kernel_rfl) rfl (by kernel_rfl) (by simp) ?_)
  simp
  refine TS.callW k1 (Dws.self (by simp)) ?_
  simp
  refine TS.callW k2 (Dws.self (by simp)) ?_
  simp
  refine TS.callW k3 (Dws.self (by simp)) ?_
  simp [bagB]
def putR (x : List Val) (out : List (List Val)) (k : Nat) : List (List Val) := out.take k ++ x :: out.drop k
theorem putR_ok {x : List Val} {out l : List (List Val)} {k : Nat} (hp : out.Perm l) (hs : out.Pairwise leR) (h1 : ∀ y, y ∈ out.drop k → orderR y x > 0) (h2 : ∀ y, y ∈ out.take k → leR y x) : (putR x out k).Perm (l ++ [x]) ∧ (putR x out k).Pairwise leR := by
  refine ⟨?_, ?_⟩
  · refine List.Perm.trans List.perm_middle ?_
    rw [List.take_append_drop]
    exact (hp.cons x).trans (List.perm_append_comm (l₁ := [x]))
  · have hsp : (out.take k ++ out.drop k).Pairwise leR := by rw [List.take_append_drop]; exact hs
    unfold putR
    rw [List.pairwise_append] at hsp ⊢
    refine ⟨hsp.1, List.pairwise_cons.2 ⟨fun y hy => ?_, hsp.2.1⟩, fun y hy z hz => ?_⟩
    · have := h1 y hy
      unfold leR
      have := orderR_swap x y
      omega
    · rw [List.mem_cons] at hz
      rcases hz with rfl | hz
      · exact h2 y hy
      · exact hsp.2.2 y hy z hz
theorem T_rrowSort (l : List (List Val)) (hl : l.length < 60) (hr : ∀ r, r ∈ l → r.length < 4611686018427387904) (hs : ∀ r, r ∈ l → ∀ v, v ∈ r → v.s.size < 4611686018427387904) : T Tryd.prog 30 [.sl .no (rows' l)] (.sl .no (rows' (sortR l))) := by
  refine T.introF (TS.body mix Tryd.func30 (by kernel_rfl) rfl (by kernel_rfl) (by simp) ?_)
  simp
  refine vc_loop (fun i : Nat => l.length - i) (fun i e H => ∃ (out : List (List Val)) (own : Own), e 0 = .sl .no (rows' l) ∧ e 3 = .sl own (rows' out) ∧ e 4 = .int .i64 i ∧ i ≤ l.length ∧ out.Perm (l.take i) ∧ out.Pairwise leR) 0 ?_ ?_
  · exact ⟨[], .nil, by simp⟩
  rintro i e H ⟨out, own, h0, h3, h4, hi, hp, hsrt⟩
  by_cases hlt : i < l.length
  · have ew := wrap_next hlt (by omega)
    have hol : out.length = i := by rw [hp.length_eq, List.length_take]; omega
    obtain ⟨x, hx⟩ : ∃ x, l[i] = x := ⟨_, rfl⟩
    have hxm : x ∈ l := by rw [← hx]; exact List.getElem_mem hlt
    simp [h0, h3, h4, hlt]
    refine vc_loop (fun k : Nat => k) (fun k e H => e 0 = .sl .no (rows' l) ∧ e 3 = .sl own (rows' out) ∧ e 4 = .int .i64 i ∧ e 5 = .int .i64 k ∧ k ≤ out.length ∧ ∀ y, y ∈ out.drop k → orderR y x > 0) out.length ?_ ?_
    · simp [h0, h3, h4]
    clear h0 h3 h4 e
    rintro k e H ⟨h0, h3, h4, h5, hk, hgt⟩
    have fin : (∀ y, y ∈ out.take k → leR y x) → (putR x out k).Perm (l.take (i + 1)) ∧ (putR x out k).Pairwise leR := fun h => by
      have := putR_ok hp hsrt hgt h
      rwa [take_next hlt, hx]
    by_cases hk0 : k = 0
    · subst hk0
      have f2 := fin (by simp)
      simp [h0, h3, h4, h5, hlt]
      refine GTK.callW (fun h => nomatch h) (ys := []) (r := .int .i64 0) ?_
      simp [h0, h3, h4, h5, hlt, hx]
      refine ⟨by omega, i + 1, by omega, putR x out 0, by simp [putR, avs], ew, by omega, f2⟩
    · obtain ⟨k1, hk1⟩ : ∃ k1, k = k1 + 1 := ⟨k - 1, by omega⟩
      subst hk1
      have w1 : IntKind.i64.wrap (k1 : Int) = (k1 : Int) := wrap_i64 (by omega) (by omega)
      have hk1l : k1 < out.length := by omega
      have hym : out[k1] ∈ l := List.mem_of_mem_take (hp.mem_iff.1 (List.getElem_mem hk1l))
      have kc := T_rrowOrder out[k1] x (hr _ hym) (hr _ hxm) (hs _ hym)
      have hpos : (0 : Int) < k1 + 1 := by omega
      simp [h0, h3, h4, h5, hlt, hx, hpos, w1, hk1l]
      refine GTK.callW (fun _ => ⟨kc, Dws.self (by simp)⟩) ?_
      by_cases hc : 0 < orderR out[k1] x
      · simp [h0, h3, h4, h5, hlt, hx, hpos, w1, hk1l, hc]
        refine ⟨k1, by omega, rfl, by omega, fun y hy => ?_⟩
        rw [List.drop_eq_getElem_cons hk1l, List.mem_cons] at hy
        rcases hy with rfl | hy
        · exact hc
        · exact hgt y hy
      · have f2 := fin (fun y hy => by
          obtain ⟨q, hq, rfl⟩ := List.mem_take_iff_getElem.1 hy
          have hle : orderR out[k1] x ≤ 0 := by omega
          by_cases hqk : q = k1
          · subst hqk; exact hle
          · exact orderR_trans (List.pairwise_iff_getElem.1 hsrt q k1 (by omega) hk1l (by omega)) hle)
        have hmn : min (k1 + 1) out.length = k1 + 1 := by omega
        simp [h0, h3, h4, h5, hlt, hx, hpos, w1, hk1l, hc, hmn]
        exact ⟨by omega, by omega, by omega, by omega, by omega, i + 1, by omega, putR x out (k1 + 1), rfl, ew, by omega, f2⟩
  · have : i = l.length := by omega
    subst this
    rw [List.take_length] at hp
    obtain rfl := sortR_eq hp hsrt
    simp [h0, h3, h4]
    exact Frz.slN (f := fun r => AV.sl .no (vals' r))
theorem T_RowsSorts (a b : List (List Val)) (r : List Val) (ha : a.length < 4611686018427387904) (hb : b.length < 4611686018427387904) (hva : ∀ x, x ∈ a → ∀ v, v ∈ x → v.s.size ≤ reachBytes) (hvb : ∀ x, x ∈ b → ∀ v, v ∈ x → v.s.size ≤ reachBytes) (hvr : ∀ v, v ∈ r → v.s.size ≤ reachBytes) : T Tryd.prog 6 [.sl .no (rows' a), .sl .no (rows' b), rowA r] (.bool true) := by
  have m1 := T_much a ha hva
  have m2 := T_much b hb hvb
  have m3 := T_much [r] (by simp) (by simpa using hvr)
  refine T.intro (TS.body mix Tryd.func6 (by kernel_rfl) rfl (by kernel_rfl) (by simp) ?_)
  simp
  refine TS.callW m1 (Dws.self (by simp)) ?_
  cases e1 : much a with
  | true =>
    simp
    refine GTK.callW (fun h => nomatch h) (ys := []) (r := .bool true) ?_
    simp
    refine GTK.callW (fun h => nomatch h) (ys := []) (r := .bool true) ?_
    simp
    refine TS.callW T_live04 .nil ?_
    simp
  | false =>
  simp
  refine GTK.callW (fun _ => ⟨m2, Dws.self (by simp)⟩) ?_
  cases e2 : much b with
  | true =>
    simp
    refine GTK.callW (fun h => nomatch h) (ys := []) (r := .bool true) ?_
    simp
    refine TS.callW T_live04 .nil ?_
    simp
  | false =>
  simp
  refine GTK.callW (fun _ => ⟨m3, by repeat (first | exact .self (by simp [AV.pl, AV.pls]) | exact .nil | constructor)⟩) ?_
  cases e3 : much [r] with
  | true =>
    simp
    refine TS.callW T_live04 .nil ?_
    simp
  | false =>
  obtain ⟨ha50, har⟩ := much_no e1
  obtain ⟨hb50, hbr⟩ := much_no e2
  obtain ⟨_, hrr⟩ := much_no e3
  have hr40 := (hrr r (by simp)).1
  have hla : ∀ x, x ∈ a → x.length < 4611686018427387904 := fun x hx => by have := (har x hx).1; omega
  have hlb : ∀ x, x ∈ b → x.length < 4611686018427387904 := fun x hx => by have := (hbr x hx).1; omega
  have hsa : ∀ x, x ∈ a → ∀ v, v ∈ x → v.s.size < 4611686018427387904 := fun x hx v hv => by have := (har x hx).2 v hv; omega
  have k1 := T_rowSort a (by omega) hla
  have k2 := T_rrowSort a (by omega) hla hsa
  have k3 := T_sameList04 (sortR a) (by rw [sortR_len]; omega) (fun x hx => hla x ((sortR_perm a).mem_iff.1 hx))
  have k4 := T_rowSort a.reverse (by simp; omega) (fun x hx => hla x (by simpa using hx))
  rw [sortR_congr (List.reverse_perm a)] at k4
  have k5 := T_rSameBag (sortR a) a (by rw [sortR_len]; omega) (by omega) (fun x hx => hla x ((sortR_perm a).mem_iff.1 hx)) hla
  have e5 : bagB (sortR a) a = true := by unfold bagB; rw [decide_eq_true_iff]; exact sortR_congr (sortR_perm a)
  rw [e5] at k5
  have k6 := T_SameBag a b (by omega) (by omega) hla hlb
  have k7 := T_rSameBag a b (by omega) (by omega) hla hlb
  have k8 := T_rowCount a r (by omega) hla (by omega)
  have k9 := T_rrowCount a r (by omega) hla (by omega)
  simp
  refine TS.callW k1 (Dws.self (by simp)) ?_
  simp
  refine vc_loop (fun i : Nat => a.length - i) (fun i e H => ∃ own : Own, e 0 = .sl .no (rows' a) ∧ e 1 = .sl .no (rows' b) ∧ e 2 = rowA r ∧ e 7 = .sl .no (rows' (sortR a)) ∧ e 8 = .sl own (rows' (a.take i).reverse) ∧ e 9 = .int .i64 i ∧ i ≤ a.length) 0 ?_ ?_
  · exact ⟨.nil, by simp⟩
  rintro i e H ⟨own, h0, h1, h2, h7, h8, h9, hi⟩
  by_cases hlt : i < a.length
  · have ew := wrap_next hlt (by omega)
    have hnx : (a.take (i + 1)).reverse = a[i] :: (a.take i).reverse := by rw [take_next hlt]; simp
    have hmn : min i a.length = i := by omega
    simp [h0, h1, h2, h7, h8, h9, hlt, hmn]
    exact ⟨by omega, i + 1, by omega, by rw [hnx]; rfl, ew, by omega⟩
  · have : i = a.length := by omega
    subst this
    rw [List.take_length] at h8
    simp [h0, h1, h2, h7, h8, h9]
    refine TS.callW k2 (Dws.self (by simp)) ?_
    simp [h0, h1, h2, h7, h8, h9]
    refine TS.callW k3 (Dws.self (by simp)) ?_
    simp [h0, h1, h2, h7, h8, h9]
    refine GTK.callW (fun _ => ⟨k4, .cons (.sl (Dws.self (by simp))) .nil⟩) ?_
    simp [h0, h1, h2, h7, h8, h9]
    refine GTK.callW (fun _ => ⟨k3, Dws.self (by simp)⟩) ?_
    simp [h0, h1, h2, h7, h8, h9]
    refine GTK.callW (fun _ => ⟨k5, Dws.self (by simp)⟩) ?_
    simp [h0, h1, h2, h7, h8, h9]
    refine GTK.callW (fun _ => ⟨k6, Dws.self (by simp)⟩) ?_
    simp [h0, h1, h2, h7, h8, h9]
    refine GTK.callW (fun _ => ⟨k7, Dws.self (by simp)⟩) ?_
    simp [h0, h1, h2, h7, h8, h9]
    refine GTK.callW (fun _ => ⟨k8, Dws.self (by simp)⟩) ?_
    simp [h0, h1, h2, h7, h8, h9]
    refine GTK.callW (fun _ => ⟨k9, Dws.self (by simp)⟩) ?_
    simp [h0, h1, h2, h7, h8, h9]
    refine GTK.callW (fun _ => ⟨T_live04, .nil⟩) ?_
    simp
theorem S_RowsSorts {xs : List AV} (h : ShA Tryd.prog [35, 35, 40] xs) : T Tryd.prog 6 xs (.bool true) := by
  obtain ⟨y, r, rfl, h0, h⟩ := h.cons_of ag_35
  obtain ⟨y, r, rfl, h1, h⟩ := h.cons_of ag_35
  obtain ⟨y, r, rfl, h2, h⟩ := h.cons_of ag_40
  obtain rfl := h.nil_of
  obtain ⟨a, rfl, ha, va⟩ := rowsV_in h0
  obtain ⟨b, rfl, hb, vb⟩ := rowsV_in h1
  obtain ⟨r, rfl, vr, hr⟩ := vals_in h2
  exact T_RowsSorts a b r ha hb va vb (fun v hv => (vr v hv).2.2)
end Go.Proofs.YtaahlhhpmooliaaDoor.PL
