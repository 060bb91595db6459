/- What the classes that join tell. -/
import Derived.Test.YtcjfjoilgnlemaaFVal
import Derived.Test.YtcjfjoilgnlemaaFGrow
namespace Go.Proofs.Ytcjfjoilgnlemaa.PL
open Go.Proofs
set_option linter.unusedVariables false
set_option linter.unusedSimpArgs false
abbrev natA (k : Nat) : AV := .int .i64 (k : Int)
instance : Sized natA 1 := ⟨fun _ => rfl⟩
instance : Plain natA := ⟨fun _ => rfl⟩
abbrev nats' (l : List Nat) : List AV := avs natA l
@[simp] theorem nats_flat {l : List Nat} : (avs natA l).flatMap AV.cells = avs natA l := avs_flat1 fun _ => rfl
/-- the classes stand at C, their row at R -/
def UfAt (H : List HO) (C R : Nat) (up : List Nat) : Prop :=
  (up = [] ∧ ∃ own, own ≠ .no ∧ H[C]? = some (.box [.sl own []])) ∨ (up ≠ [] ∧ H[C]? = some (.box [.mv R up.length 1 0 up.length]) ∧ H[R]? = some (.row up.length 1 (nats' up)))
/-- each hangs on none later -/
def UfOk (up : List Nat) : Prop := ∀ i (h : i < up.length), up[i] ≤ i
def rtF : Nat → List Nat → Nat → Nat
  | 0, _, i => i
  | f + 1, up, i => if up.getD i 0 = i then i else rtF f up (up.getD i 0)
def rt (up : List Nat) (i : Nat) : Nat := rtF (i + 1) up i
def compF : Nat → List Nat → Nat → Nat → List Nat
  | 0, up, _, _ => up
  | f + 1, up, i, r => if up.getD i 0 = r then up else compF f (up.set i r) (up.getD i 0) r
def comp (up : List Nat) (i : Nat) : List Nat := compF (i + 1) up i (rt up i)
theorem UfOk.le {up : List Nat} (ok : UfOk up) (i : Nat) : up.getD i 0 ≤ i := by
  rcases Nat.lt_or_ge i up.length with h | h
  · have := ok i h
    simpa [h] using this
  · simp [h]
theorem rtF_same {up : List Nat} (ok : UfOk up) : ∀ f g i, i < f → i < g → rtF f up i = rtF g up i
  | 0, _, i, h, _ => by omega
  | _ + 1, 0, i, _, h => by omega
  | f + 1, g + 1, i, h1, h2 => by
    unfold rtF
    split
    · rfl
    · rename_i hne
      have := ok.le i
      exact rtF_same ok f g _ (by omega) (by omega)
theorem rt_root {up : List Nat} {i : Nat} (h : up.getD i 0 = i) : rt up i = i := by unfold rt rtF; rw [if_pos h]
theorem rt_step {up : List Nat} (ok : UfOk up) {i : Nat} (h : up.getD i 0 ≠ i) : rt up i = rt up (up.getD i 0) := by
  have hle := ok.le i
  have h1 : rt up i = rtF i up (up.getD i 0) := by
    show rtF (i + 1) up i = _
    rw [rtF, if_neg h]
  rw [h1]
  exact rtF_same ok _ _ _ (by omega) (by omega)
theorem rt_le {up : List Nat} (ok : UfOk up) : ∀ i, rt up i ≤ i := by
  intro i
  induction i using Nat.strongRecOn with
  | _ i ih =>
    by_cases h : up.getD i 0 = i
    · rw [rt_root h]; exact Nat.le_refl _
    · have := ok.le i
      rw [rt_step ok h]
      exact Nat.le_trans (ih _ (by omega)) this
theorem rt_fix {up : List Nat} (ok : UfOk up) : ∀ i, up.getD (rt up i) 0 = rt up i := by
  intro i
  induction i using Nat.strongRecOn with
  | _ i ih =>
    by_cases h : up.getD i 0 = i
    · rw [rt_root h]; exact h
    · have := ok.le i
      rw [rt_step ok h]
      exact ih _ (by omega)
/-- where two agree up to i, their roots of i agree -/
theorem rt_agree {up vp : List Nat} (ok : UfOk up) (ok2 : UfOk vp) : ∀ i, (∀ k, k ≤ i → up.getD k 0 = vp.getD k 0) → rt up i = rt vp i := by
  intro i
  induction i using Nat.strongRecOn with
  | _ i ih =>
    intro h
    have e := h i (Nat.le_refl _)
    by_cases h1 : up.getD i 0 = i
    · rw [rt_root h1, rt_root (e ▸ h1)]
    · have := ok.le i
      rw [rt_step ok h1, rt_step ok2 (e ▸ h1), ← e]
      exact ih _ (by omega) fun k hk => h k (by omega)
theorem UfOk.set {up : List Nat} (ok : UfOk up) {i r : Nat} (h : r ≤ i) : UfOk (up.set i r) := by
  intro k hk
  rw [List.getElem_set]
  split
  · rename_i e; omega
  · exact ok k (by simpa using hk)
theorem getD_set {up : List Nat} {i r k : Nat} (hi : i < up.length) : (up.set i r).getD k 0 = if k = i then r else up.getD k 0 := by
  simp only [List.getD_eq_getElem?_getD, List.getElem?_set]
  by_cases h : i = k
  · subst h; simp [hi]
  · rw [if_neg h, if_neg (fun e => h e.symm)]
/-- a path made short changes no root -/
theorem rt_set {up : List Nat} (ok : UfOk up) {i : Nat} (hi : i < up.length) : ∀ k, rt (up.set i (rt up i)) k = rt up k := by
  have hr := rt_le ok i
  have ok2 := ok.set hr
  have hf := rt_fix ok i
  intro k
  induction k using Nat.strongRecOn with
  | _ k ih =>
    by_cases hk : k = i
    · subst hk
      have e : (up.set k (rt up k)).getD k 0 = rt up k := by rw [getD_set hi, if_pos rfl]
      by_cases h2 : rt up k = k
      · rw [rt_root (e.trans h2), h2]
      · rw [rt_step ok2 (by rw [e]; exact h2), e, ih _ (by omega)]
        exact rt_root hf
    · have e : (up.set i (rt up i)).getD k 0 = up.getD k 0 := by rw [getD_set hi, if_neg hk]
      by_cases h2 : up.getD k 0 = k
      · rw [rt_root h2, rt_root (e.trans h2)]
      · have := ok.le k
        rw [rt_step ok h2, rt_step ok2 (by rw [e]; exact h2), e, ih _ (by omega)]
set_option maxRecDepth 4000 in
theorem S_there (H : List HO) (C R : Nat) (up : List Nat) (i : Int) (h : UfAt H C R up) (hl : up.length < 4611686018427387904) : TS Try.prog 85 [.ptr C 0, .int .i64 i] H (pt (.bool (decide (0 ≤ i) && decide (i < up.length))) H) := by
  refine TS.body mix Try.func85 (by kernel_rfl) rfl (by kernel_rfl) (by simp) ?_
  rcases h with ⟨rfl, own, ho, hC⟩ | ⟨hne, hC, hR⟩
  · simp [hC, isPtrT]
  · simp [hC, hR, isPtrT]
theorem compF_end {up : List Nat} {f i r : Nat} (h : up.getD i 0 = r) : compF (f + 1) up i r = up := by unfold compF; rw [if_pos h]
theorem compF_step {up : List Nat} {f i r : Nat} (h : up.getD i 0 ≠ r) : compF (f + 1) up i r = compF f (up.set i r) (up.getD i 0) r := by rw [compF, if_neg h]
set_option maxRecDepth 4000 in
theorem S_findNo (H : List HO) (C R : Nat) (up : List Nat) (i : Int) (h : UfAt H C R up) (hl : up.length < 4611686018427387904) (hi : ¬ (0 ≤ i ∧ i < up.length)) : TS Try.prog 86 [.ptr C 0, .int .i64 i] H (pt (.int .i64 (-1)) H) := by
  refine TS.body mix Try.func86 (by kernel_rfl) rfl (by kernel_rfl) (by simp) ?_
  simp
  refine TS.pt (S_there H C R up i h hl) ?_
  have : (decide (0 ≤ i) && decide (i < up.length)) = false := by simp; omega
  rw [this]
  simp
set_option maxRecDepth 4000 in
theorem S_find (H : List HO) (C R : Nat) (up : List Nat) (i : Nat) (h : UfAt H C R up) (ok : UfOk up) (hCR : C ≠ R) (hl : up.length < 4611686018427387904) (hi : i < up.length) : TS Try.prog 86 [.ptr C 0, .int .i64 i] H (pt (.int .i64 (rt up i)) (H.set R (.row up.length 1 (nats' (comp up i))))) := by
  refine TS.body mix Try.func86 (by kernel_rfl) rfl (by kernel_rfl) (by simp) ?_
  simp
  refine TS.pt (S_there H C R up i h hl) ?_
  have : (decide (0 ≤ (i : Int)) && decide ((i : Int) < up.length)) = true := by simp; omega
  rw [this]
  rcases h with ⟨rfl, _⟩ | ⟨hne, hC, hR⟩
  · simp at hi
  simp
  refine vc_loop (fun j : Nat => j) (fun j e H' => e 0 = .ptr C 0 ∧ e 1 = .int .i64 i ∧ e 5 = .int .i64 j ∧ j < up.length ∧ rt up j = rt up i ∧ H' = H) i ?_ ?_
  · simp [hi]
  rintro j e H' ⟨h0, h1, h5, hj, hr, rfl⟩
  have hgd : up.getD j 0 = up[j] := by simp [hj]
  simp [h0, h1, h5, hj, hC, hR]
  refine condK_of (fun q => ?_) (fun q => ?_)
  · simp at q
    have q' : up.getD j 0 ≠ j := by rw [hgd]; omega
    have hle := ok j hj
    have hs := rt_step ok q'
    rw [hgd] at hs
    simp [h0, h1, h5, hj, hC, hR]
    exact ⟨up[j], by omega, rfl, by omega, by rw [← hs]; exact hr⟩
  simp at q
  have q' : up.getD j 0 = j := by rw [hgd]; omega
  have hrj : rt up i = j := by rw [← hr]; exact rt_root q'
  have hself : H'.set R (.row up.length 1 (nats' up)) = H' := by
    have hlt := (List.getElem?_eq_some_iff.1 hR).1
    have e := (List.getElem?_eq_some_iff.1 hR).2
    rw [← e]; exact List.set_getElem_self hlt
  have hRl := (List.getElem?_eq_some_iff.1 hR).1
  simp [h0, h1, h5, hj, hC, hR]
  refine vc_loop (fun k : Nat => k) (fun k e H2 => ∃ cur : List Nat, ∃ f : Nat, e 0 = .ptr C 0 ∧ e 1 = .int .i64 k ∧ e 5 = .int .i64 (rt up i) ∧ k < up.length ∧ cur.length = up.length ∧ UfOk cur ∧ rt cur k = rt up i ∧ k < f ∧ compF f cur k (rt up i) = comp up i ∧ H2 = H'.set R (.row up.length 1 (nats' cur))) i ?_ ?_
  · exact ⟨up, i + 1, by simp [h0], by simp [h1], by simp [h5, hrj], hi, rfl, ok, rfl, by omega, rfl, hself.symm⟩
  clear h0 h1 h5 e
  rintro k e H2 ⟨cur, f, h0, h1, h5, hk, hcl, okc, hrk, hkf, hcf, rfl⟩
  have hkc : k < cur.length := by omega
  have hgk : cur.getD k 0 = cur[k] := by simp [hkc]
  generalize rt up i = r at *
  have hCR' : R ≠ C := fun e => hCR e.symm
  simp [h0, h1, h5, hk, hkc, hcl, hC, hR, hRl, hCR, hCR']
  refine condK_of (fun q3 => ?_) (fun q3 => ?_)
  · simp at q3
    have hne3 : cur.getD k 0 ≠ r := by rw [hgk]; omega
    have hnk : cur.getD k 0 ≠ k := fun e => hne3 (by rw [e]; rw [← hrk]; exact (rt_root e).symm)
    have hle := okc k hkc
    have hlt : cur[k] < k := by rw [hgk] at hnk; omega
    have hst := rt_step okc hnk
    have hrl := rt_le okc k
    have hset := rt_set okc hkc cur[k]
    rw [hrk] at hrl hset hst
    rw [hgk] at hst
    obtain ⟨f', rfl⟩ : ∃ f', f = f' + 1 := ⟨f - 1, by omega⟩
    rw [compF_step hne3, hgk] at hcf
    simp [h0, h1, h5, hk, hkc, hcl, hC, hR, hRl, hCR, hCR']
    refine ⟨by omega, cur[k], hlt, rfl, by omega, cur.set k r, by simp [hcl], okc.set hrl, by rw [hset, ← hst], f', by omega, hcf, ?_⟩
    have es : cur.set k r = cur.take k ++ r :: cur.drop (k + 1) := by rw [List.set_eq_take_append_cons_drop, if_pos hkc]
    rw [es]
  · simp at q3
    have he3 : cur.getD k 0 = r := by rw [hgk]; omega
    obtain ⟨f', rfl⟩ : ∃ f', f = f' + 1 := ⟨f - 1, by omega⟩
    rw [compF_end he3] at hcf
    simp [h0, h1, h5, hk, hkc, hcl, hC, hR, hRl, hCR, hCR', hcf]
/-- what a shorter path leaves -/
theorem compF_ok {r : Nat} : ∀ (f : Nat) (up : List Nat) (i : Nat), UfOk up → i < up.length → rt up i = r → (compF f up i r).length = up.length ∧ UfOk (compF f up i r) ∧ ∀ k, rt (compF f up i r) k = rt up k
  | 0, up, i, ok, hi, hr => ⟨rfl, ok, fun _ => rfl⟩
  | f + 1, up, i, ok, hi, hr => by
    by_cases h : up.getD i 0 = r
    · rw [compF_end h]; exact ⟨rfl, ok, fun _ => rfl⟩
    · rw [compF_step h]
      have hnk : up.getD i 0 ≠ i := fun e => h (by rw [e]; rw [← hr]; exact (rt_root e).symm)
      have hrl := rt_le ok i
      have hset := rt_set ok hi
      have hst := rt_step ok hnk
      have hle := ok.le i
      rw [hr] at hrl hset hst
      obtain ⟨c1, c2, c3⟩ := compF_ok f (up.set i r) (up.getD i 0) (ok.set hrl) (by rw [List.length_set]; omega) (by rw [hset, ← hst])
      exact ⟨by rw [c1]; simp, c2, fun k => by rw [c3, hset]⟩
theorem comp_ok {up : List Nat} (ok : UfOk up) {i : Nat} (hi : i < up.length) : (comp up i).length = up.length ∧ UfOk (comp up i) ∧ ∀ k, rt (comp up i) k = rt up k := compF_ok (i + 1) up i ok hi rfl
theorem UfAt.set {H : List HO} {C R : Nat} {up vp : List Nat} (h : UfAt H C R up) (hCR : C ≠ R) (hl : vp.length = up.length) (hne : up ≠ []) : UfAt (H.set R (.row up.length 1 (nats' vp))) C R vp := by
  rcases h with ⟨h, _⟩ | ⟨_, hC, hR⟩
  · exact absurd h hne
  · refine .inr ⟨fun e => hne ?_, ?_, ?_⟩
    · subst e; exact List.eq_nil_of_length_eq_zero hl.symm
    · rw [List.getElem?_set_ne (fun e => hCR e.symm), hl]; exact hC
    · rw [List.getElem?_set_self (List.getElem?_eq_some_iff.1 hR).1, hl]
/-- Find of any number: what it tells, and the row after it -/
def fv (up : List Nat) (i : Int) : Int := if 0 ≤ i ∧ i < up.length then (rt up i.toNat : Int) else -1
def fu (up : List Nat) (i : Int) : List Nat := if 0 ≤ i ∧ i < up.length then comp up i.toNat else up
def fH (H : List HO) (R : Nat) (up : List Nat) (i : Int) : List HO := if 0 ≤ i ∧ i < up.length then H.set R (.row up.length 1 (nats' (comp up i.toNat))) else H
theorem S_findI (H : List HO) (C R : Nat) (up : List Nat) (i : Int) (h : UfAt H C R up) (ok : UfOk up) (hCR : C ≠ R) (hl : up.length < 4611686018427387904) : TS Try.prog 86 [.ptr C 0, .int .i64 i] H (pt (.int .i64 (fv up i)) (fH H R up i)) := by
  unfold fv fH
  by_cases hi : 0 ≤ i ∧ i < up.length
  · rw [if_pos hi, if_pos hi]
    have := S_find H C R up i.toNat h ok hCR hl (by omega)
    rwa [show ((i.toNat : Nat) : Int) = i by omega] at this
  · rw [if_neg hi, if_neg hi]
    exact S_findNo H C R up i h hl hi
theorem fu_ok {up : List Nat} (ok : UfOk up) (i : Int) : (fu up i).length = up.length ∧ UfOk (fu up i) ∧ ∀ k, rt (fu up i) k = rt up k := by
  unfold fu
  split
  · exact comp_ok ok (by omega)
  · exact ⟨rfl, ok, fun _ => rfl⟩
theorem fu_at {H : List HO} {C R : Nat} {up : List Nat} (h : UfAt H C R up) (ok : UfOk up) (hCR : C ≠ R) (i : Int) : UfAt (fH H R up i) C R (fu up i) := by
  unfold fu fH
  split
  · rename_i hi
    exact h.set hCR (comp_ok ok (by omega)).1 (by rintro rfl; simp at hi; omega)
  · exact h
theorem fv_fu {up : List Nat} (ok : UfOk up) (i k : Int) : fv (fu up i) k = fv up k := by
  have h := fu_ok ok i
  unfold fv
  rw [h.1, h.2.2]
def inR (up : List Nat) (i : Int) : Bool := decide (0 ≤ i) && decide (i < up.length)
def smB (up : List Nat) (a b : Int) : Bool := inR up a && decide (fv up a = fv up b)
def smU (up : List Nat) (a b : Int) : List Nat := if inR up a = true then fu (fu up a) b else up
def smH (H : List HO) (R : Nat) (up : List Nat) (a b : Int) : List HO := if inR up a = true then fH (fH H R up a) R (fu up a) b else H
set_option maxRecDepth 4000 in
theorem S_same (H : List HO) (C R : Nat) (up : List Nat) (a b : Int) (h : UfAt H C R up) (ok : UfOk up) (hCR : C ≠ R) (hl : up.length < 4611686018427387904) : TS Try.prog 46 [.ptr C 0, .int .i64 a, .int .i64 b] H (pt (.bool (smB up a b)) (smH H R up a b)) := by
  have k1 := fu_ok ok a
  have k2 := fu_at h ok hCR a
  have f1 := S_findI H C R up a h ok hCR hl
  have f2 := S_findI (fH H R up a) C R (fu up a) b k2 k1.2.1 hCR (by rw [k1.1]; exact hl)
  rw [fv_fu ok] at f2
  refine TS.body mix Try.func46 (by kernel_rfl) rfl (by kernel_rfl) (by simp) ?_
  simp
  refine TS.pt (S_there H C R up a h hl) ?_
  unfold smB smH
  have e : inR up a = (decide (0 ≤ a) && decide (a < up.length)) := rfl
  rw [← e]
  cases hb : inR up a with
  | true =>
    simp [hb]
    refine GTK.yes (TS.pt f1 ?_)
    simp [hb]
    refine GTK.yes (TS.pt f2 ?_)
    simp [hb]
  | false =>
    simp [hb]
    refine GTK.no ?_
    simp [hb]
    refine GTK.no ?_
    simp [hb]
theorem fv_lt {up : List Nat} (ok : UfOk up) (i : Int) : -1 ≤ fv up i ∧ fv up i < (up.length : Int) := by
  unfold fv
  split
  · have := rt_le ok i.toNat
    omega
  · omega
def joB (up : List Nat) (a b : Int) : Bool := !(decide (fv up a < 0) || decide (fv up b < 0) || decide (fv up a = fv up b))
def joU0 (up : List Nat) (a b : Int) : List Nat := fu (fu up a) b
def joH0 (H : List HO) (R : Nat) (up : List Nat) (a b : Int) : List HO := fH (fH H R up a) R (fu up a) b
def joU (up : List Nat) (a b : Int) : List Nat := if joB up a b = true then (joU0 up a b).set (max (fv up a) (fv up b)).toNat (min (fv up a) (fv up b)).toNat else joU0 up a b
def joH (H : List HO) (R : Nat) (up : List Nat) (a b : Int) : List HO := if joB up a b = true then (joH0 H R up a b).set R (.row up.length 1 (nats' (joU up a b))) else joH0 H R up a b
set_option maxRecDepth 4000 in
theorem S_join (H : List HO) (C R : Nat) (up : List Nat) (a b : Int) (h : UfAt H C R up) (ok : UfOk up) (hCR : C ≠ R) (hl : up.length < 4611686018427387904) : TS Try.prog 84 [.ptr C 0, .int .i64 a, .int .i64 b] H (pt (.bool (joB up a b)) (joH H R up a b)) := by
  have k1 := fu_ok ok a
  have k2 := fu_at h ok hCR a
  have k3 := fu_ok k1.2.1 b
  have k4 := fu_at k2 k1.2.1 hCR b
  have f1 := S_findI H C R up a h ok hCR hl
  have f2 := S_findI (fH H R up a) C R (fu up a) b k2 k1.2.1 hCR (by rw [k1.1]; exact hl)
  rw [fv_fu ok] at f2
  have l1 := fv_lt ok a
  have l2 := fv_lt ok b
  refine TS.body mix Try.func84 (by kernel_rfl) rfl (by kernel_rfl) (by simp) ?_
  simp
  refine TS.pt f1 ?_
  simp
  refine TS.pt f2 ?_
  simp
  repeat (refine ⟨by grind, ?_⟩)
  have e3 : (joU0 up a b).length = up.length := by show (fu (fu up a) b).length = _; rw [k3.1, k1.1]
  change UfAt (joH0 H R up a b) C R (joU0 up a b) at k4
  refine condK_of (fun q => ?_) (fun q => ?_)
  · have : joB up a b = false := by unfold joB; rw [q]; rfl
    unfold joH
    rw [this]
    simp [joH0]
  · have hj : joB up a b = true := by unfold joB; rw [q]; rfl
    simp at q
    have e4 : joU up a b = (joU0 up a b).set (max (fv up a) (fv up b)).toNat (min (fv up a) (fv up b)).toNat := if_pos hj
    unfold joH
    rw [hj, if_pos rfl, e4]
    change vcU _ _ _ _ _ (joH0 H R up a b) _
    generalize joH0 H R up a b = H3 at *
    generalize joU0 up a b = u3 at *
    rcases k4 with ⟨rfl, _⟩ | ⟨hne, hC, hR⟩
    · simp at e3; omega
    rw [e3] at hC hR
    have hRl := (List.getElem?_eq_some_iff.1 hR).1
    obtain ⟨m, hm, hm2, hml⟩ : ∃ m : Nat, (if fv up a < fv up b then fv up b else fv up a) = (m : Int) ∧ (max (fv up a) (fv up b)).toNat = m ∧ m < up.length := ⟨(max (fv up a) (fv up b)).toNat, by split <;> omega, rfl, by omega⟩
    obtain ⟨w, hw, hw2⟩ : ∃ w : Nat, (if fv up b < fv up a then fv up b else fv up a) = (w : Int) ∧ (min (fv up a) (fv up b)).toNat = w := ⟨(min (fv up a) (fv up b)).toNat, by split <;> omega, rfl⟩
    rw [hm2, hw2]
    have es : u3.set m w = u3.take m ++ w :: u3.drop (m + 1) := by rw [List.set_eq_take_append_cons_drop, if_pos (by omega)]
    rw [es]
    simp [hC, hR, hm, hw, hml, e3]
    omega
/-- a root hung on an earlier root -/
theorem rt_hang {up : List Nat} (ok : UfOk up) {m w : Nat} (hm : m < up.length) (hr : rt up m = m) (hw : rt up w = w) (hlt : w < m) : ∀ k, rt (up.set m w) k = if rt up k = m then w else rt up k := by
  have ok2 : UfOk (up.set m w) := ok.set (by omega)
  have fw := rt_fix ok w
  rw [hw] at fw
  have fm := rt_fix ok m
  rw [hr] at fm
  have hw2 : rt (up.set m w) w = w := rt_root (by rw [getD_set hm, if_neg (by omega)]; exact fw)
  intro k
  induction k using Nat.strongRecOn with
  | _ k ih =>
    by_cases hk : k = m
    · subst hk
      have e : (up.set k w).getD k 0 = w := by rw [getD_set hm, if_pos rfl]
      rw [if_pos hr, rt_step ok2 (by rw [e]; omega), e, hw2]
    · have e : (up.set m w).getD k 0 = up.getD k 0 := by rw [getD_set hm, if_neg hk]
      by_cases h2 : up.getD k 0 = k
      · rw [rt_root (e.trans h2), rt_root h2, if_neg hk]
      · have := ok.le k
        rw [rt_step ok2 (by rw [e]; exact h2), e, ih _ (by omega), ← rt_step ok h2]
theorem jo_ok {up : List Nat} (ok : UfOk up) (a b : Int) : (joU up a b).length = up.length ∧ UfOk (joU up a b) ∧
    ∀ k, rt (joU up a b) k = if joB up a b = true ∧ (rt up k : Int) = max (fv up a) (fv up b) then (min (fv up a) (fv up b)).toNat else rt up k := by
  have k1 := fu_ok ok a
  have k3 := fu_ok k1.2.1 b
  have l1 := fv_lt ok a
  have l2 := fv_lt ok b
  have hk : ∀ k, rt (joU0 up a b) k = rt up k := fun k => by show rt (fu (fu up a) b) k = _; rw [k3.2.2, k1.2.2]
  have hl : (joU0 up a b).length = up.length := by show (fu (fu up a) b).length = _; rw [k3.1, k1.1]
  have ho : UfOk (joU0 up a b) := k3.2.1
  unfold joU
  cases hj : joB up a b with
  | false => simpa using ⟨hl, ho, hk⟩
  | true =>
    rw [if_pos rfl]
    simp [joB] at hj
    have ra : ∃ i : Nat, fv up a = (rt up i : Int) := by
      unfold fv at hj ⊢
      split
      · exact ⟨_, rfl⟩
      · rename_i h; rw [if_neg h] at hj; omega
    have rb : ∃ i : Nat, fv up b = (rt up i : Int) := by
      unfold fv at hj ⊢
      split
      · exact ⟨_, rfl⟩
      · rename_i h; rw [if_neg h] at hj; omega
    obtain ⟨i, hi⟩ := ra
    obtain ⟨j, hj2⟩ := rb
    have ri : rt up (rt up i) = rt up i := rt_root (rt_fix ok i)
    have rj : rt up (rt up j) = rt up j := rt_root (rt_fix ok j)
    rw [hi, hj2] at hj
    rw [hi] at l1
    rw [hj2] at l2
    rw [hi, hj2]
    obtain ⟨m, w, em, ew, hm, hmr, hwr, hlt⟩ : ∃ m w : Nat, (max (rt up i : Int) (rt up j)) = (m : Int) ∧ (min (rt up i : Int) (rt up j)) = (w : Int) ∧ m < up.length ∧ rt up m = m ∧ rt up w = w ∧ w < m := by
      rcases Nat.lt_or_ge (rt up i) (rt up j) with h | h
      · exact ⟨rt up j, rt up i, by omega, by omega, by omega, rj, ri, h⟩
      · exact ⟨rt up i, rt up j, by omega, by omega, by omega, ri, rj, by omega⟩
    rw [em, ew]
    refine ⟨by rw [List.length_set, hl], ho.set (by simp; omega), fun k => ?_⟩
    have := rt_hang ho (m := m) (w := w) (by omega) (by rw [hk]; exact hmr) (by rw [hk]; exact hwr) hlt k
    rw [hk] at this
    by_cases hq : rt up k = m
    · rw [if_pos hq] at this
      rw [if_pos ⟨rfl, by omega⟩]
      exact this
    · rw [if_neg hq] at this
      rw [if_neg (fun e => hq (by have := e.2; omega))]
      exact this
def newH (H : List HO) (n : Nat) : List HO := if n = 0 then H ++ [.box [.sl .exact []]] else H ++ [.box [.mv (H.length + 1) n 1 0 n], .row n 1 (nats' (List.range n))]
def newN (k : Int) : Nat := (min (max k 0) 65536).toNat
set_option maxRecDepth 4000 in
theorem S_new (H : List HO) (k : Int) : TS Try.prog 83 [.int .i64 k] H (pt (.ptr H.length 0) (newH H (newN k))) := by
  refine TS.bodyM [20] mix Try.func83 (by kernel_rfl) rfl (by kernel_rfl) (by simp) ?_
  obtain ⟨n, hn, hn2⟩ : ∃ n : Nat, newN k = n ∧ n ≤ 65536 := ⟨newN k, rfl, by unfold newN; omega⟩
  rw [hn]
  simp
  refine vc_loop (fun i : Nat => n - i) (fun i e H' => e 3 = .ptr H.length 0 ∧ e 9 = .int .i64 n ∧ e 10 = .int .i64 i ∧ i ≤ n ∧ H' = newH H i) 0 ?_ ?_
  · simp [newH]
    rw [← hn]
    unfold newN
    split <;> split <;> omega
  rintro i e H' ⟨h3, h9, h10, hi, rfl⟩
  by_cases h : i < n
  · have ew := wrap_next h (by omega)
    unfold newH
    by_cases h0 : i = 0
    · subst h0
      simp [h3, h9, h10, h]
      exact ⟨1, by omega, rfl, by omega, by simp [List.range_succ]⟩
    · rw [if_neg h0]
      simp [h3, h9, h10, h]
      exact ⟨by omega, i + 1, by omega, ew, by omega, by rw [if_neg (by omega), List.range_succ]⟩
  · have : i = n := by omega
    subst this
    simp [h3, h9, h10]
theorem new_at (H : List HO) (n : Nat) : UfAt (newH H n) H.length (H.length + 1) (List.range n) := by
  unfold newH UfAt
  by_cases h : n = 0
  · subst h
    exact .inl ⟨rfl, .exact, by simp, by simp⟩
  · rw [if_neg h]
    exact .inr ⟨by simpa using h, by simp, by simp⟩
theorem range_ok (n : Nat) : UfOk (List.range n) := fun i h => by simp
theorem rt_range (n k : Nat) (h : k < n) : rt (List.range n) k = k := rt_root (by simp [h])
theorem T_rnew (n : Nat) (hn : n ≤ 1000) : T Try.prog 42 [.int .i64 n] (.sl .no (nats' (List.range n))) := by
  refine T.intro (TS.body mix Try.func42 (by kernel_rfl) rfl (by kernel_rfl) (by simp) ?_)
  simp
  refine vc_loop (fun i : Nat => n - i) (fun i e H => e 0 = .int .i64 n ∧ e 4 = .int .i64 i ∧ i ≤ n ∧ Grow1 1 H (e 3) (nats' (List.range i))) 0 ?_ ?_
  · simp [Grow1]
  rintro i e H ⟨h0, h4, hi, hg⟩
  by_cases h : i < n
  · have ew := wrap_next h (by omega)
    rcases hg with ⟨ge, hg⟩ | ⟨k, hg, ht⟩
    · rw [avs_eq_nil] at ge
      simp [h0, h4, h, hg]
      refine ⟨i + 1, by omega, ew, by omega, ?_⟩
      rw [List.range_succ]
      exact Grow1.first (f := natA) ge rfl
    · have hll : (nats' (List.range i)).length = i := by simp
      have ht'' := ht
      rw [hll] at ht''
      simp [h0, h4, h, hg, ht'']
      refine ⟨by omega, i + 1, by omega, ew, by omega, ?_⟩
      rw [List.range_succ]
      exact Grow1.more ht (by simp)
  · have : i = n := by omega
    subst this
    obtain ⟨own, hg⟩ := hg.own
    simp [h0, h4, hg]
def rjo (r : List Nat) (a b : Int) : List Nat :=
  if inR r a = true ∧ inR r b = true then r.map fun v => if v = max (r.getD a.toNat 0) (r.getD b.toNat 0) then min (r.getD a.toNat 0) (r.getD b.toNat 0) else v else r
def rjC (r : List Nat) (lo hh k : Nat) : List Nat := (r.take k).map (fun v => if v = hh then lo else v) ++ r.drop k
theorem rjC_len {r : List Nat} {lo hh k : Nat} (hk : k ≤ r.length) : (rjC r lo hh k).length = r.length := by unfold rjC; simp; omega
theorem rjC_get {r : List Nat} {lo hh k : Nat} (hk : k < r.length) : (rjC r lo hh k)[k]? = some r[k] := by
  unfold rjC
  rw [List.getElem?_append_right (by simp; omega)]
  have : k - ((r.take k).map fun v => if v = hh then lo else v).length = 0 := by simp; omega
  rw [this]; simp [hk]
theorem rjC_next {r : List Nat} {lo hh k : Nat} (hk : k < r.length) : rjC r lo hh (k + 1) = (rjC r lo hh k).set k (if r[k] = hh then lo else r[k]) := by
  unfold rjC
  have h0 : k - ((r.take k).map fun v => if v = hh then lo else v).length = 0 := by simp; omega
  have e1 : r.drop k = r[k] :: r.drop (k + 1) := List.drop_eq_getElem_cons hk
  rw [List.set_append_right _ _ (by simp; omega), h0, e1, List.set_cons_zero, take_next hk, List.map_append, List.append_assoc]
  rfl
theorem T_rjoin (r : List Nat) (a b : Int) (hl : r.length ≤ 1000) : T Try.prog 43 [.sl .no (nats' r), .int .i64 a, .int .i64 b] (.sl .no (nats' (rjo r a b))) := by
  refine T.introF (TS.bodyM [45] mix Try.func43 (by kernel_rfl) rfl (by kernel_rfl) (by simp) ?_)
  simp
  repeat (refine ⟨by grind, ?_⟩)
  refine condK_of (fun q => ?_) (fun q => ?_)
  · have : rjo r a b = r := by unfold rjo inR; rw [if_neg]; grind
    simp [this]
    exact Frz.of_cl2 (by simp)
  simp at q
  obtain ⟨i, rfl⟩ : ∃ i : Nat, a = i := ⟨a.toNat, by omega⟩
  obtain ⟨j, rfl⟩ : ∃ j : Nat, b = j := ⟨b.toNat, by omega⟩
  have hi : i < r.length := by omega
  have hj : j < r.length := by omega
  have hne : r ≠ [] := by rintro rfl; simp at hi
  have hrj : rjo r i j = r.map fun v => if v = max r[i] r[j] then min r[i] r[j] else v := by
    unfold rjo inR
    rw [if_pos (by simp; omega)]
    simp [hi, hj]
  simp [hi, hj]
  refine condK_of (fun q2 => ?_) (fun q2 => ?_)
  all_goals
    simp at q2
    simp [hi, hj, hne]
    rw [hrj]
    refine ⟨by omega, ?_⟩
    obtain ⟨lo, elo⟩ : ∃ lo, lo = min r[i] r[j] := ⟨_, rfl⟩
    obtain ⟨hh, ehi⟩ : ∃ hh, hh = max r[i] r[j] := ⟨_, rfl⟩
    rw [← elo, ← ehi]
    refine vc_loop (fun k : Nat => r.length - k) (fun k e H => e 7 = .int .i64 lo ∧ e 8 = .int .i64 hh ∧ e 9 = .mv 0 r.length 1 0 r.length ∧ e 10 = .int .i64 k ∧ k ≤ r.length ∧ H = [.row r.length 1 (nats' (rjC r lo hh k))]) 0 ?_ ?_
    · simp [rjC]; omega
    rintro k e H ⟨h7, h8, h9, h10, hk, rfl⟩
    have hcl := rjC_len (lo := lo) (hh := hh) hk
    by_cases hkl : k < r.length
    · have ew := wrap_next hkl (by omega)
      have hnext := rjC_next (lo := lo) (hh := hh) hkl
      have hg := rjC_get (lo := lo) (hh := hh) hkl
      generalize rjC r lo hh k = cur at *
      have hkc : k < cur.length := by omega
      have hck : cur[k] = r[k] := by
        rw [List.getElem?_eq_getElem hkc] at hg
        simpa using hg
      have es : ∀ w, cur.set k w = cur.take k ++ w :: cur.drop (k + 1) := fun w => by rw [List.set_eq_take_append_cons_drop, if_pos (by omega)]
      simp [h7, h8, h9, h10, hkl, hkc, hcl]
      refine condK_of (fun q3 => ?_) (fun q3 => ?_)
      · simp at q3
        have q4 : r[k] = hh := by omega
        rw [if_pos q4, es] at hnext
        simp [h7, h8, h9, h10, hkl, hkc, hcl]
        exact ⟨by omega, k + 1, by omega, ew, by omega, by rw [hnext]⟩
      · simp at q3
        have q4 : ¬ r[k] = hh := by omega
        rw [if_neg q4, ← hck, List.set_getElem_self] at hnext
        simp [h7, h8, h9, h10, hkl, hkc, hcl]
        exact ⟨k + 1, by omega, ew, by omega, by rw [hnext]⟩
    · have : k = r.length := by omega
      subst this
      have e5 : rjC r lo hh r.length = r.map fun v => if v = hh then lo else v := by simp [rjC]
      rw [e5]
      simp [h7, h8, h9, h10]
      refine Frz.row (cs := nats' _) rfl (by simp) (by simp) (by simp) fun x hx => ?_
      obtain ⟨v, _, rfl⟩ := mem_avs.1 hx
      simp
end Go.Proofs.Ytcjfjoilgnlemaa.PL
