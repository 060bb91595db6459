/- Relations: which are right, which values match. -/
import Derived.Test.YtjplcdeaedflpaaDoorFRows3
import Derived.Test.YtjplcdeaedflpaaDoorFGraph3
import Derived.Test.YtjplcdeaedflpaaDoorFLogic3
namespace Go.Proofs.YtjplcdeaedflpaaDoor.PL
open Go.Proofs
set_option linter.unusedVariables false
set_option linter.unusedSimpArgs false
structure Rel where
  cols : List Int
  rows : List (List Val)
  deriving DecidableEq
abbrev Rel.cs (r : Rel) : List AV := [.sl .no (ints' r.cols), .sl .no (rows' r.rows)]
abbrev Rel.av (r : Rel) : AV := .agg r.cs
instance : Plain Rel.av := ⟨fun x => by simp [AV.pl, AV.pls]⟩
def zR : Rel := ⟨[], []⟩
/-- what is asked of one in the proofs -/
structure OkR (r : Rel) : Prop where
  nc : r.cols.length ≤ 1000
  nr : r.rows.length ≤ 100000
  row : ∀ l, l ∈ r.rows → l.length ≤ 1000 ∧ ∀ v, v ∈ l → v.s.size ≤ 2000 ∧ -9223372036854775808 ≤ v.i ∧ v.i < 9223372036854775808
theorem OkR.zero : OkR zR := ⟨by simp [zR], by simp [zR], by simp [zR]⟩
def risesB (l : List Int) : Bool := decide (l.Pairwise (· < ·))
def wideB (n : Nat) (l : List Val) : Bool := !decide (l.length = n)
def rightR (r : Rel) : Bool := risesB r.cols && !r.rows.any (wideB r.cols.length)
def heldR (r : Rel) : Rel := if rightR r then r else zR
theorem heldR_ok {r : Rel} (h : OkR r) : OkR (heldR r) := by unfold heldR; split; exact h; exact .zero
theorem heldR_right (r : Rel) : rightR (heldR r) = true := by
  unfold heldR
  split
  · assumption
  · decide
theorem heldR_of {r : Rel} (h : rightR r = true) : heldR r = r := if_pos h
theorem rightR_row {r : Rel} (h : rightR r = true) {l : List Val} (hl : l ∈ r.rows) : l.length = r.cols.length := by
  unfold rightR at h
  simp [wideB] at h
  exact h.2 l hl
theorem rightR_rises {r : Rel} (h : rightR r = true) : r.cols.Pairwise (· < ·) := by
  unfold rightR risesB at h
  simp at h
  exact h.1
theorem risesB_next {l : List Int} (h : ∀ i (h : i + 1 < l.length), l[i] < l[i + 1]) : risesB l = true := by
  unfold risesB
  rw [decide_eq_true_iff, List.pairwise_iff_getElem]
  intro i j hi hj hij
  obtain ⟨d, rfl⟩ : ∃ d, j = i + 1 + d := ⟨j - (i + 1), by omega⟩
  induction d with
  | zero => exact h i hj
  | succ d ih =>
    have h1 := ih (by omega) (by omega)
    have h2 := h (i + 1 + d) (by omega)
    have e : i + 1 + (d + 1) = i + 1 + d + 1 := by omega
    simp only [e]
    omega
theorem risesB_no {l : List Int} {i : Nat} (h : i + 1 < l.length) (hn : ¬ l[i] < l[i + 1]) : risesB l = false := by
  unfold risesB
  rw [decide_eq_false_iff_not]
  intro hp
  exact hn (List.pairwise_iff_getElem.1 hp i (i + 1) (by omega) h (by omega))
/-- values that match -/
def okV (v : Val) : Bool := decide (v.k = 1 ∨ v.k = 2)
def matchV (a b : List Val) : Bool := decide (a = b) && a.all okV
theorem order_zeroR (a b : Val) : order a b = 0 ↔ a = b := by
  rw [order_zero]
  constructor
  · rintro ⟨h1, h2, h3⟩
    cases a; cases b
    simp at h1 h2 h3
    subst h1; subst h2; subst h3
    rfl
  · rintro rfl; exact ⟨rfl, rfl, rfl⟩
theorem eqT_one (a b : Val) : eqT a b = 1 ↔ a = b ∧ okV a = true := by
  have hz := order_zeroR a b
  unfold eqT okV
  by_cases h : alike a b
  · rw [if_pos h]
    have ho : a.k = 1 ∨ a.k = 2 := h.2
    by_cases h0 : order a b = 0
    · rw [if_pos h0]
      exact ⟨fun _ => ⟨hz.1 h0, decide_eq_true ho⟩, fun _ => rfl⟩
    · rw [if_neg h0]
      exact ⟨fun h => by omega, fun h => absurd (hz.2 h.1) h0⟩
  · rw [if_neg h]
    constructor
    · intro h; omega
    · rintro ⟨rfl, h2⟩
      exact absurd ⟨rfl, by simpa using h2⟩ h
theorem testT_one (a b : Val) : testT 1 a b = eqT a b := by unfold testT eqT; rfl
theorem matchV_next {a b : List Val} {i : Nat} (ha : i < a.length) (hb : i < b.length) : matchV (a.take (i + 1)) (b.take (i + 1)) = (matchV (a.take i) (b.take i) && decide (eqT a[i] b[i] = 1)) := by
  have e := eqT_one a[i] b[i]
  unfold matchV
  rw [take_next ha, take_next hb, List.all_append]
  rw [Bool.eq_iff_iff]
  simp only [Bool.and_eq_true, decide_eq_true_iff, e, List.all_cons, List.all_nil, Bool.and_true]
  constructor
  · rintro ⟨h1, h2, h3⟩
    have := List.append_inj' h1 rfl
    simp at this
    exact ⟨⟨this.1, h2⟩, this.2, h3⟩
  · rintro ⟨⟨h1, h2⟩, h3, h4⟩
    exact ⟨by rw [h1, h3], h2, h4⟩
theorem matchV_no {a b : List Val} {i : Nat} (h : matchV (a.take i) (b.take i) = false) : matchV a b = false := by
  cases hm : matchV a b with
  | false => rfl
  | true =>
    unfold matchV at hm
    simp only [Bool.and_eq_true, decide_eq_true_iff] at hm
    obtain ⟨rfl, h2⟩ := hm
    have : matchV (a.take i) (a.take i) = true := by
      unfold matchV
      rw [decide_eq_true rfl, Bool.true_and]
      exact (List.all_eq_true.2 fun v hv => List.all_eq_true.1 h2 v (List.mem_of_mem_take hv))
    rw [this] at h
    exact h
theorem T_smatch (a b : List Val) (ha : a.length < 4611686018427387904) : T Tryd.prog 43 [rowA a, rowA b] (.bool (matchV a b)) := by
  refine T.intro (TS.body mix Tryd.func43 (by kernel_rfl) rfl (by kernel_rfl) (by simp) ?_)
  simp
  by_cases hl : a.length = b.length
  · simp [hl]
    refine vc_loop (fun i : Nat => a.length - i) (fun i e H => e 1 = rowA b ∧ e 12 = rowA a ∧ e 13 = .int .i64 a.length ∧ e 14 = .int .i64 i ∧ i ≤ a.length ∧ matchV (a.take i) (b.take i) = true) 0 ?_ ?_
    · simp [hl]
      rfl
    rintro i e H ⟨e1, e12, e13, e14, hi, heq⟩
    by_cases hlt : i < a.length
    · have hlt2 : i < b.length := by omega
      have ew := wrap_next hlt (by omega)
      have hnx := matchV_next hlt hlt2
      rw [heq, Bool.true_and] at hnx
      have k1 := T_leq a[i] b[i]
      have k2 := T_lis (eqT a[i] b[i])
      simp [e1, e12, e13, e14, hlt, hlt2]
      refine TDK.callW k1 (Dws.self (by simp)) ?_
      simp [e1, e12, e13, e14, hlt, hlt2]
      refine TDK.callW k2 (Dws.self (by simp)) ?_
      by_cases hc : eqT a[i] b[i] = 1
      · simp [e1, e12, e13, e14, hlt, hlt2, hc]
        exact ⟨i + 1, by omega, ew, by omega, by rw [hnx]; simp [hc]⟩
      · have hno : matchV a b = false := matchV_no (i := i + 1) (by rw [hnx]; simp [hc])
        simp [e1, e12, e13, e14, hlt, hlt2, hc, hno]
    · have : i = a.length := by omega
      subst this
      rw [List.take_of_length_le (Nat.le_refl _), List.take_of_length_le (by omega)] at heq
      simp [e1, e12, e13, e14, heq]
  · have hl2 : ¬ (a.length : Int) = b.length := by omega
    have hne : matchV a b = false := by unfold matchV; simp; intro h; exact absurd (by rw [h]) hl
    simp [hl, hl2, hne]

/-- the first row for which it is so -/
theorem S_indexRows (H : List HO) (own : Own) (f : FuncId) (caps : List AV) (l : List (List Val)) (q : List Val → Bool) (hl : l.length < 4611686018427387904) (hq : ∀ x, x ∈ l → TS Tryd.prog f (rowA x :: caps) H (pt (.bool (q x)) H)) : TS Tryd.prog 57 [.sl own (rows' l), .fn (.func f) [] caps] H (pt (.int .i64 (match l.findIdx? q with | some i => (i : Int) | none => -1)) H) := by
  refine TS.body mix Tryd.func57 (by kernel_rfl) rfl (by kernel_rfl) (by simp) ?_
  simp
  refine vc_loop (fun i : Nat => l.length - i) (fun i e H' => e 0 = .sl own (rows' l) ∧ e 1 = .fn (.func f) [] caps ∧ e 7 = .int .i64 l.length ∧ e 8 = .int .i64 i ∧ i ≤ l.length ∧ (∀ j (h : j < l.length), j < i → q l[j] = false) ∧ H' = H) 0 ?_ ?_
  · simp
  rintro i e H' ⟨h0, h1, h7, h8, hi, hno, rfl⟩
  by_cases hlt : i < l.length
  · have ew := wrap_next hlt (by omega)
    have hqi := hq l[i] (List.getElem_mem hlt)
    simp [h0, h1, h7, h8, hlt]
    refine TS.pt hqi ?_
    simp [h0, h1, h7, h8, hlt]
    refine condK_of (fun c => ?_) (fun c => ?_)
    · have : l.findIdx? q = some i := by
        rw [List.findIdx?_eq_some_iff_getElem]
        exact ⟨hlt, c, fun j hj => by rw [hno j (by omega) hj]; simp⟩
      rw [this]
      simp
    · simp [h0, h1, h7, h8, hlt]
      refine ⟨i + 1, by omega, ew, by omega, fun j h hj => ?_⟩
      rcases Nat.lt_or_ge j i with h2 | h2
      · exact hno j h h2
      · have : j = i := by omega
        subst this; exact c
  · have : i = l.length := by omega
    subst this
    have : l.findIdx? q = none := by
      rw [List.findIdx?_eq_none_iff]
      intro x hx
      obtain ⟨j, hj, rfl⟩ := List.getElem_of_mem hx
      exact hno j hj hj
    rw [this]
    simp [h0, h1, h7, h8]
theorem S_anyRows (H : List HO) (own : Own) (f : FuncId) (caps : List AV) (l : List (List Val)) (q : List Val → Bool) (hl : l.length < 4611686018427387904) (hq : ∀ x, x ∈ l → TS Tryd.prog f (rowA x :: caps) H (pt (.bool (q x)) H)) : TS Tryd.prog 47 [.sl own (rows' l), .fn (.func f) [] caps] H (pt (.bool (l.any q)) H) := by
  refine TS.body mix Tryd.func47 (by kernel_rfl) rfl (by kernel_rfl) (by simp) ?_
  simp
  refine TS.pt (S_indexRows H own f caps l q hl hq) ?_
  have : decide (0 ≤ (match l.findIdx? q with | some i => (i : Int) | none => -1)) = l.any q := by
    cases h : l.findIdx? q with
    | none =>
      rw [List.findIdx?_eq_none_iff] at h
      symm
      simp
      exact h
    | some i =>
      have := List.findIdx?_eq_some_iff_getElem.1 h
      obtain ⟨hi, hq', _⟩ := this
      symm
      simp
      exact ⟨l[i], List.getElem_mem hi, hq'⟩
  rw [← this]
  simp
theorem S_right1 (H : List HO) (k : Nat) (r : Rel) (l : List Val) (hk : H[k]? = some (.box r.cs)) : TS Tryd.prog 48 [rowA l, .ptr k 0] H (pt (.bool (wideB r.cols.length l)) H) := by
  refine TS.body mix Tryd.func48 (by kernel_rfl) rfl (by kernel_rfl) (by simp) ?_
  simp [hk]
  unfold wideB
  by_cases h : l.length = r.cols.length
  · simp [h]
  · have : ¬ (l.length : Int) = r.cols.length := by omega
    simp [h, this]
theorem T_sright (r : Rel) (hr : OkR r) : T Tryd.prog 32 [r.av] (.bool (rightR r)) := by
  have hnc := hr.nc
  have hnr := hr.nr
  refine T.intro (TS.body mix Tryd.func32 (by kernel_rfl) rfl (by kernel_rfl) (by simp) ?_)
  simp
  refine vc_loop (fun i : Nat => r.cols.length - i) (fun i e H => e 1 = .ptr 0 0 ∧ e 3 = .int .i64 ((i + 1 : Nat) : Int) ∧ i ≤ r.cols.length ∧ H = [.box r.cs] ∧ ∀ j (h : j + 1 < r.cols.length), j < i → r.cols[j] < r.cols[j + 1]) 0 ?_ ?_
  · simp
  rintro i e H ⟨e1, e3, hi, rfl, hno⟩
  by_cases hlt : i + 1 < r.cols.length
  · have ew : IntKind.i64.wrap (((i + 1 : Nat) : Int) + 1) = ((i + 1 + 1 : Nat) : Int) := by rw [wrap_i64 (by omega) (by omega)]; omega
    have ew2 : IntKind.i64.wrap (((i + 1 : Nat) : Int) - 1) = ((i : Nat) : Int) := by rw [wrap_i64 (by omega) (by omega)]; omega
    have hlt2 : ((i + 1 : Nat) : Int) < r.cols.length := by omega
    have hlt3 : i < r.cols.length := by omega
    obtain ⟨m, hm⟩ : ∃ m, m = i + 1 := ⟨_, rfl⟩
    rw [← hm] at ew ew2 hlt2 e3
    have hltm : m < r.cols.length := by omega
    simp [e1, e3, ew2, hlt2, hlt3, hltm]
    refine condK_of (fun c => ?_) (fun c => ?_)
    · simp at c
      have : rightR r = false := by
        unfold rightR
        rw [risesB_no hlt (by subst hm; omega)]
        rfl
      simp [this]
    · simp at c
      simp [e1, e3, ew]
      refine ⟨i + 1, by omega, by omega, by omega, fun j h hj => ?_⟩
      rcases Nat.lt_or_ge j i with h2 | h2
      · exact hno j h h2
      · have : j = i := by omega
        subst this; subst hm; exact c
  · have hge : decide ((i : Int) + 1 < r.cols.length) = false := by simp; omega
    have hr2 : risesB r.cols = true := risesB_next fun j h => hno j h (by omega)
    have ks := S_anyRows [.box r.cs] .no 48 [.ptr 0 0] r.rows (wideB r.cols.length) (by omega) fun x _ => S_right1 _ 0 r x rfl
    simp [e1, e3, hge]
    refine TS.pt ks ?_
    simp [rightR, hr2]
end Go.Proofs.YtjplcdeaedflpaaDoor.PL
