/- Contracts of functions of the program, and plain laws (part 5): Relations: which are right, which values match; Relations: values at columns  what the reference holds; Relations: those that are held, copies, and what is kept of a list; Relations: rows by their keys; Relations: rows that match, found by their keys; Relations: what the reference tells of rows that match. -/
import Derived.Test.YtjplcdeaedflpaaGreatDoorB1
import Derived.Test.YtjplcdeaedflpaaGreatDoorB4
namespace Go.Proofs.YtjplcdeaedflpaaGreatDoor.PL
open Go.Proofs
set_option linter.unusedVariables false
set_option linter.unusedSimpArgs false
structure Rel where
  cols : List Int
  rows : List (List Val)
  deriving DecidableEq
abbrev Rel.cs (r : Rel) : List AV := [.sl .no (ints' r.cols), .sl .no (rows' r.rows)]
abbrev Rel.av (r : Rel) : AV := .agg r.cs
instance : Plain Rel.av := ⟨fun x => by simp [AV.pl, AV.pls]⟩
def zR : Rel := ⟨[], []⟩
/-- what is asked of one in the proofs -/
structure OkR (r : Rel) : Prop where
  nc : r.cols.length ≤ 1000
  nr : r.rows.length ≤ 100000
  row : ∀ l, l ∈ r.rows → l.length ≤ 1000 ∧ ∀ v, v ∈ l → v.s.size ≤ 2000 ∧ -9223372036854775808 ≤ v.i ∧ v.i < 9223372036854775808
theorem OkR.zero : OkR zR := ⟨by simp [zR], by simp [zR], by simp [zR]⟩
def risesB (l : List Int) : Bool := decide (l.Pairwise (· < ·))
def wideB (n : Nat) (l : List Val) : Bool := !decide (l.length = n)
def rightR (r : Rel) : Bool := risesB r.cols && !r.rows.any (wideB r.cols.length)
def heldR (r : Rel) : Rel := if rightR r then r else zR
theorem heldR_ok {r : Rel} (h : OkR r) : OkR (heldR r) := by unfold heldR; split; exact h; exact .zero
theorem heldR_right (r : Rel) : rightR (heldR r) = true := by
  unfold heldR
  split
  · assumption
  · decide
theorem heldR_of {r : Rel} (h : rightR r = true) : heldR r = r := if_pos h
theorem rightR_row {r : Rel} (h : rightR r = true) {l : List Val} (hl : l ∈ r.rows) : l.length = r.cols.length := by
  unfold rightR at h
  simp [wideB] at h
  exact h.2 l hl
theorem rightR_rises {r : Rel} (h : rightR r = true) : r.cols.Pairwise (· < ·) := by
  unfold rightR risesB at h
  simp at h
  exact h.1
theorem risesB_next {l : List Int} (h : ∀ i (h : i + 1 < l.length), l[i] < l[i + 1]) : risesB l = true := by
  unfold risesB
  rw [decide_eq_true_iff, List.pairwise_iff_getElem]
  intro i j hi hj hij
  obtain ⟨d, rfl⟩ : ∃ d, j = i + 1 + d := ⟨j - (i + 1), by omega⟩
  induction d with
  | zero => exact h i hj
  | succ d ih =>
    have h1 := ih (by omega) (by omega)
    have h2 := h (i + 1 + d) (by omega)
    have e : i + 1 + (d + 1) = i + 1 + d + 1 := by omega
    simp only [e]
    omega
theorem risesB_no {l : List Int} {i : Nat} (h : i + 1 < l.length) (hn : ¬ l[i] < l[i + 1]) : risesB l = false := by
  unfold risesB
  rw [decide_eq_false_iff_not]
  intro hp
  exact hn (List.pairwise_iff_getElem.1 hp i (i + 1) (by omega) h (by omega))
/-- values that match -/
def okV (v : Val) : Bool := decide (v.k = 1 ∨ v.k = 2)
def matchV (a b : List Val) : Bool := decide (a = b) && a.all okV
theorem order_zeroR (a b : Val) : order a b = 0 ↔ a = b := by
  rw [order_zero]
  constructor
  · rintro ⟨h1, h2, h3⟩
    cases a; cases b
    simp at h1 h2 h3
    subst h1; subst h2; subst h3
    rfl
  · rintro rfl; exact ⟨rfl, rfl, rfl⟩
theorem eqT_one (a b : Val) : eqT a b = 1 ↔ a = b ∧ okV a = true := by
  have hz := order_zeroR a b
  unfold eqT okV
  by_cases h : alike a b
  · rw [if_pos h]
    have ho : a.k = 1 ∨ a.k = 2 := h.2
    by_cases h0 : order a b = 0
    · rw [if_pos h0]
      exact ⟨fun _ => ⟨hz.1 h0, decide_eq_true ho⟩, fun _ => rfl⟩
    · rw [if_neg h0]
      exact ⟨fun h => by omega, fun h => absurd (hz.2 h.1) h0⟩
  · rw [if_neg h]
    constructor
    · intro h; omega
    · rintro ⟨rfl, h2⟩
      exact absurd ⟨rfl, by simpa using h2⟩ h
theorem testT_one (a b : Val) : testT 1 a b = eqT a b := by unfold testT eqT; rfl
theorem matchV_next {a b : List Val} {i : Nat} (ha : i < a.length) (hb : i < b.length) : matchV (a.take (i + 1)) (b.take (i + 1)) = (matchV (a.take i) (b.take i) && decide (eqT a[i] b[i] = 1)) := by
  have e := eqT_one a[i] b[i]
  unfold matchV
  rw [take_next ha, take_next hb, List.all_append]
  rw [Bool.eq_iff_iff]
  simp only [Bool.and_eq_true, decide_eq_true_iff, e, List.all_cons, List.all_nil, Bool.and_true]
  constructor
  · rintro ⟨h1, h2, h3⟩
    have := List.append_inj' h1 rfl
    simp at this
    exact ⟨⟨this.1, h2⟩, this.2, h3⟩
  · rintro ⟨⟨h1, h2⟩, h3, h4⟩
    exact ⟨by rw [h1, h3], h2, h4⟩
theorem matchV_no {a b : List Val} {i : Nat} (h : matchV (a.take i) (b.take i) = false) : matchV a b = false := by
  cases hm : matchV a b with
  | false => rfl
  | true =>
    unfold matchV at hm
    simp only [Bool.and_eq_true, decide_eq_true_iff] at hm
    obtain ⟨rfl, h2⟩ := hm
    have : matchV (a.take i) (a.take i) = true := by
      unfold matchV
      rw [decide_eq_true rfl, Bool.true_and]
      exact (List.all_eq_true.2 fun v hv => List.all_eq_true.1 h2 v (List.mem_of_mem_take hv))
    rw [this] at h
    exact h
theorem T_smatch (a b : List Val) (ha : a.length < 4611686018427387904) : T Tryz.prog 99 [rowA a, rowA b] (.bool (matchV a b)) := by
  refine T.intro (TS.body mix Tryz.func99 (by kernel_rfl) rfl (by kernel_rfl) (by simp) ?_)
  simp
  by_cases hl : a.length = b.length
  · simp [hl]
    refine vc_loop (fun i : Nat => a.length - i) (fun i e H => e 1 = rowA b ∧ e 12 = rowA a ∧ e 13 = .int .i64 a.length ∧ e 14 = .int .i64 i ∧ i ≤ a.length ∧ matchV (a.take i) (b.take i) = true) 0 ?_ ?_
    · simp [hl]
      rfl
    rintro i e H ⟨e1, e12, e13, e14, hi, heq⟩
    by_cases hlt : i < a.length
    · have hlt2 : i < b.length := by omega
      have ew := wrap_next hlt (by omega)
      have hnx := matchV_next hlt hlt2
      rw [heq, Bool.true_and] at hnx
      have k1 := T_leq a[i] b[i]
      have k2 := T_lis (eqT a[i] b[i])
      simp [e1, e12, e13, e14, hlt, hlt2]
      refine TDK.callW k1 (Dws.self (by simp)) ?_
      simp [e1, e12, e13, e14, hlt, hlt2]
      refine TDK.callW k2 (Dws.self (by simp)) ?_
      by_cases hc : eqT a[i] b[i] = 1
      · simp [e1, e12, e13, e14, hlt, hlt2, hc]
        exact ⟨i + 1, by omega, ew, by omega, by rw [hnx]; simp [hc]⟩
      · have hno : matchV a b = false := matchV_no (i := i + 1) (by rw [hnx]; simp [hc])
        simp [e1, e12, e13, e14, hlt, hlt2, hc, hno]
    · have : i = a.length := by omega
      subst this
      rw [List.take_of_length_le (Nat.le_refl _), List.take_of_length_le (by omega)] at heq
      simp [e1, e12, e13, e14, heq]
  · have hl2 : ¬ (a.length : Int) = b.length := by omega
    have hne : matchV a b = false := by unfold matchV; simp; intro h; exact absurd (by rw [h]) hl
    simp [hl, hl2, hne]
theorem T_rmatch24 (a b : List Val) (ha : a.length < 4611686018427387904) (hs : ∀ v, v ∈ a → v.s.size < 4611686018427387904) : T Tryz.prog 87 [rowA a, rowA b] (.bool (matchV a b)) := by
  refine T.intro (TS.body mix Tryz.func87 (by kernel_rfl) rfl (by kernel_rfl) (by simp) ?_)
  simp
  by_cases hl : a.length = b.length
  · simp [hl]
    refine vc_loop (fun i : Nat => a.length - i) (fun i e H => e 0 = rowA a ∧ e 1 = rowA b ∧ e 5 = .int .i64 i ∧ i ≤ a.length ∧ matchV (a.take i) (b.take i) = true) 0 ?_ ?_
    · simp
      rfl
    rintro i e H ⟨e0, e1, e5, hi, heq⟩
    by_cases hlt : i < a.length
    · have hlt2 : i < b.length := by omega
      have ew := wrap_next hlt (by omega)
      have hnx := matchV_next hlt hlt2
      rw [heq, Bool.true_and] at hnx
      have k1 := T_rtest 1 a[i] b[i] (hs _ (List.getElem_mem hlt))
      rw [testT_one] at k1
      simp [e0, e1, e5, hlt, hlt2]
      refine TDK.callW k1 (Dws.self (by simp)) ?_
      by_cases hc : eqT a[i] b[i] = 1
      · simp [e0, e1, e5, hlt, hlt2, hc]
        exact ⟨i + 1, by omega, ew, by omega, by rw [hnx]; simp [hc]⟩
      · have hno : matchV a b = false := matchV_no (i := i + 1) (by rw [hnx]; simp [hc])
        simp [e0, e1, e5, hlt, hlt2, hc, hno]
    · have : i = a.length := by omega
      subst this
      rw [List.take_of_length_le (Nat.le_refl _), List.take_of_length_le (by omega)] at heq
      simp [e0, e1, e5, heq]
  · have hl2 : ¬ (a.length : Int) = b.length := by omega
    have hne : matchV a b = false := by unfold matchV; simp; intro h; exact absurd (by rw [h]) hl
    simp [hl, hl2, hne]
/-- the first row for which it is so -/
theorem S_indexRows (H : List HO) (own : Own) (f : FuncId) (caps : List AV) (l : List (List Val)) (q : List Val → Bool) (hl : l.length < 4611686018427387904) (hq : ∀ x, x ∈ l → TS Tryz.prog f (rowA x :: caps) H (pt (.bool (q x)) H)) : TS Tryz.prog 84 [.sl own (rows' l), .fn (.func f) [] caps] H (pt (.int .i64 (match l.findIdx? q with | some i => (i : Int) | none => -1)) H) := by
  refine TS.body mix Tryz.func84 (by kernel_rfl) rfl (by kernel_rfl) (by simp) ?_
  simp
  refine vc_loop (fun i : Nat => l.length - i) (fun i e H' => e 0 = .sl own (rows' l) ∧ e 1 = .fn (.func f) [] caps ∧ e 7 = .int .i64 l.length ∧ e 8 = .int .i64 i ∧ i ≤ l.length ∧ (∀ j (h : j < l.length), j < i → q l[j] = false) ∧ H' = H) 0 ?_ ?_
  · simp
  rintro i e H' ⟨h0, h1, h7, h8, hi, hno, rfl⟩
  by_cases hlt : i < l.length
  · have ew := wrap_next hlt (by omega)
    have hqi := hq l[i] (List.getElem_mem hlt)
    simp [h0, h1, h7, h8, hlt]
    refine TS.pt hqi ?_
    simp [h0, h1, h7, h8, hlt]
    refine condK_of (fun c => ?_) (fun c => ?_)
    · have : l.findIdx? q = some i := by
        rw [List.findIdx?_eq_some_iff_getElem]
        exact ⟨hlt, c, fun j hj => by rw [hno j (by omega) hj]; simp⟩
      rw [this]
      simp
    · simp [h0, h1, h7, h8, hlt]
      refine ⟨i + 1, by omega, ew, by omega, fun j h hj => ?_⟩
      rcases Nat.lt_or_ge j i with h2 | h2
      · exact hno j h h2
      · have : j = i := by omega
        subst this; exact c
  · have : i = l.length := by omega
    subst this
    have : l.findIdx? q = none := by
      rw [List.findIdx?_eq_none_iff]
      intro x hx
      obtain ⟨j, hj, rfl⟩ := List.getElem_of_mem hx
      exact hno j hj hj
    rw [this]
    simp [h0, h1, h7, h8]
theorem S_anyRows (H : List HO) (own : Own) (f : FuncId) (caps : List AV) (l : List (List Val)) (q : List Val → Bool) (hl : l.length < 4611686018427387904) (hq : ∀ x, x ∈ l → TS Tryz.prog f (rowA x :: caps) H (pt (.bool (q x)) H)) : TS Tryz.prog 48 [.sl own (rows' l), .fn (.func f) [] caps] H (pt (.bool (l.any q)) H) := by
  refine TS.body mix Tryz.func48 (by kernel_rfl) rfl (by kernel_rfl) (by simp) ?_
  simp
  refine TS.pt (S_indexRows H own f caps l q hl hq) ?_
  have : decide (0 ≤ (match l.findIdx? q with | some i => (i : Int) | none => -1)) = l.any q := by
    cases h : l.findIdx? q with
    | none =>
      rw [List.findIdx?_eq_none_iff] at h
      symm
      simp
      exact h
    | some i =>
      have := List.findIdx?_eq_some_iff_getElem.1 h
      obtain ⟨hi, hq', _⟩ := this
      symm
      simp
      exact ⟨l[i], List.getElem_mem hi, hq'⟩
  rw [← this]
  simp
theorem S_relRight1 (H : List HO) (k : Nat) (r : Rel) (l : List Val) (hk : H[k]? = some (.box r.cs)) : TS Tryz.prog 49 [rowA l, .ptr k 0] H (pt (.bool (wideB r.cols.length l)) H) := by
  refine TS.body mix Tryz.func49 (by kernel_rfl) rfl (by kernel_rfl) (by simp) ?_
  simp [hk]
  unfold wideB
  by_cases h : l.length = r.cols.length
  · simp [h]
  · have : ¬ (l.length : Int) = r.cols.length := by omega
    simp [h, this]
theorem T_sright (r : Rel) (hr : OkR r) : T Tryz.prog 12 [r.av] (.bool (rightR r)) := by
  have hnc := hr.nc
  have hnr := hr.nr
  refine T.intro (TS.body mix Tryz.func12 (by kernel_rfl) rfl (by kernel_rfl) (by simp) ?_)
  simp
  refine vc_loop (fun i : Nat => r.cols.length - i) (fun i e H => e 1 = .ptr 0 0 ∧ e 3 = .int .i64 ((i + 1 : Nat) : Int) ∧ i ≤ r.cols.length ∧ H = [.box r.cs] ∧ ∀ j (h : j + 1 < r.cols.length), j < i → r.cols[j] < r.cols[j + 1]) 0 ?_ ?_
  · simp
  rintro i e H ⟨e1, e3, hi, rfl, hno⟩
  by_cases hlt : i + 1 < r.cols.length
  · have ew : IntKind.i64.wrap (((i + 1 : Nat) : Int) + 1) = ((i + 1 + 1 : Nat) : Int) := by rw [wrap_i64 (by omega) (by omega)]; omega
    have ew2 : IntKind.i64.wrap (((i + 1 : Nat) : Int) - 1) = ((i : Nat) : Int) := by rw [wrap_i64 (by omega) (by omega)]; omega
    have hlt2 : ((i + 1 : Nat) : Int) < r.cols.length := by omega
    have hlt3 : i < r.cols.length := by omega
    obtain ⟨m, hm⟩ : ∃ m, m = i + 1 := ⟨_, rfl⟩
    rw [← hm] at ew ew2 hlt2 e3
    have hltm : m < r.cols.length := by omega
    simp [e1, e3, ew2, hlt2, hlt3, hltm]
    refine condK_of (fun c => ?_) (fun c => ?_)
    · simp at c
      have : rightR r = false := by
        unfold rightR
        rw [risesB_no hlt (by subst hm; omega)]
        rfl
      simp [this]
    · simp at c
      simp [e1, e3, ew]
      refine ⟨i + 1, by omega, by omega, by omega, fun j h hj => ?_⟩
      rcases Nat.lt_or_ge j i with h2 | h2
      · exact hno j h h2
      · have : j = i := by omega
        subst this; subst hm; exact c
  · have hge : decide ((i : Int) + 1 < r.cols.length) = false := by simp; omega
    have hr2 : risesB r.cols = true := risesB_next fun j h => hno j h (by omega)
    have ks := S_anyRows [.box r.cs] .no 49 [.ptr 0 0] r.rows (wideB r.cols.length) (by omega) fun x _ => S_relRight1 _ 0 r x rfl
    simp [e1, e3, hge]
    refine TS.pt ks ?_
    simp [rightR, hr2]
end Go.Proofs.YtjplcdeaedflpaaGreatDoor.PL
namespace Go.Proofs.YtjplcdeaedflpaaGreatDoor.PL
open Go.Proofs
set_option linter.unusedVariables false
set_option linter.unusedSimpArgs false
def idxF (l : List Int) (v : Int) : Int := match l.findIdx? (fun x => decide (x = v)) with | some i => (i : Int) | none => -1
def valsF (cols : List Int) (row : List Val) (cs : List Int) : List Val := cs.map fun c => pickF row (idxF cols c)
theorem idxF_some {l : List Int} {v : Int} {i : Nat} (h : i < l.length) (he : l[i] = v) (hno : ∀ j (h : j < l.length), j < i → ¬ l[j] = v) : idxF l v = i := by
  unfold idxF
  have : l.findIdx? (fun x => decide (x = v)) = some i := by
    rw [List.findIdx?_eq_some_iff_getElem]
    exact ⟨h, by simp [he], fun j hj => by simpa using hno j (by omega) hj⟩
  rw [this]
theorem idxF_none {l : List Int} {v : Int} (h : v ∉ l) : idxF l v = -1 := by
  unfold idxF
  have : l.findIdx? (fun x => decide (x = v)) = none := by
    rw [List.findIdx?_eq_none_iff]
    intro x hx
    simp
    rintro rfl
    exact h hx
  rw [this]
theorem idxF_at {l : List Int} {v : Int} (h : v ∈ l) : ∃ i : Nat, ∃ h : i < l.length, l[i] = v ∧ idxF l v = i := by
  unfold idxF
  cases h2 : l.findIdx? (fun x => decide (x = v)) with
  | none =>
    rw [List.findIdx?_eq_none_iff] at h2
    exact absurd (h2 v h) (by simp)
  | some i =>
    obtain ⟨h1, h3, _⟩ := List.findIdx?_eq_some_iff_getElem.1 h2
    exact ⟨i, h1, by simpa using h3, rfl⟩
theorem T_idxF (l : List Int) (v : Int) (hl : l.length < 4611686018427387904) : T Tryz.prog 60 [.sl .no (ints' l), .int .i64 v] (.int .i64 (idxF l v)) := by
  obtain ⟨n, h1, _, h3⟩ := T_indexI l v hl
  rw [h3] at h1
  exact h1
theorem T_svalues (r : Rel) (row : List Val) (cs : List Int) (hr : r.cols.length ≤ 1000) (hrow : row.length ≤ 1000) (hc : cs.length ≤ 1000) : T Tryz.prog 59 [r.av, rowA row, .sl .no (ints' cs)] (rowA (valsF r.cols row cs)) := by
  obtain ⟨ps, hps⟩ : ∃ ps, ps = cs.map (idxF r.cols) := ⟨_, rfl⟩
  have hpl : ps.length = cs.length := by rw [hps, List.length_map]
  have hpi : ∀ i (h : i < cs.length), ps[i]'(by omega) = idxF r.cols cs[i] := fun i h => by subst hps; simp
  refine T.intro (TS.body mix Tryz.func59 (by kernel_rfl) rfl (by kernel_rfl) (by simp) ?_)
  simp
  refine vc_loop (fun i : Nat => cs.length - i) (fun i e H => e 1 = rowA row ∧ e 3 = .ptr 0 0 ∧ e 10 = .sl .no (ints' cs) ∧ e 11 = .int .i64 cs.length ∧ e 12 = .int .i64 i ∧ i ≤ cs.length ∧ ∃ J, H = .box r.cs :: J ∧ GrowK 1 1 J (e 7) (ints' (ps.take i))) 0 ?_ ?_
  · simp [GrowK]
  rintro i e H ⟨e1, e3, e10, e11, e12, hi, J, rfl, hg⟩
  by_cases hlt : i < cs.length
  · have ew := wrap_next hlt (by omega)
    have k := T_idxF r.cols cs[i] (by omega)
    have hnx : ps.take (i + 1) = ps.take i ++ [idxF r.cols cs[i]] := by rw [take_next (by omega), hpi i hlt]
    have hml : (ps.take i).length = i := by simp; omega
    simp [e1, e3, e10, e11, e12, hlt]
    refine TS.callW k (Dws.self (by simp)) ?_
    rcases hg with ⟨ge, gx⟩ | ⟨t, gx, ht⟩
    · rw [avs_eq_nil] at ge
      simp [e1, e3, e10, e11, e12, hlt, gx]
      refine ⟨i + 1, by omega, ew, by omega, ?_⟩
      rw [hnx]
      exact GrowK.first ge rfl
    · have hw := ht
      simp only [avs_length] at hw
      simp [e1, e3, e10, e11, e12, hlt, gx, hw]
      refine ⟨by omega, i + 1, by omega, ew, by omega, ?_⟩
      rw [hnx]
      exact GrowK.more ht (by omega)
  · have : i = cs.length := by omega
    subst this
    rw [← hpl, List.take_length] at hg
    obtain ⟨own, gx⟩ := hg.own
    have k := T_pick4 row ps (by omega) (by omega)
    have he : ps.map (pickF row) = valsF r.cols row cs := by rw [hps, List.map_map]; rfl
    rw [he] at k
    simp [e1, e3, e10, e11, e12, gx]
    refine TS.callW k (.cons (.self (by simp)) (.cons (.sl (Dws.self (by simp))) .nil)) ?_
    simp
theorem T_rvalue24 (r : Rel) (row : List Val) (c : Int) (hr : r.cols.length ≤ 1000) (hrow : row.length ≤ 1000) : T Tryz.prog 63 [r.av, rowA row, .int .i64 c] (pickF row (idxF r.cols c)).av := by
  refine T.introF (TS.body mix Tryz.func63 (by kernel_rfl) rfl (by kernel_rfl) (by simp) ?_)
  simp
  refine vc_loop (fun i : Nat => r.cols.length - i) (fun i e H => e 1 = rowA row ∧ e 2 = .int .i64 c ∧ e 3 = .ptr 0 0 ∧ e 6 = .ptr 1 0 ∧ e 7 = .int .i64 i ∧ i ≤ r.cols.length ∧ (∃ c1 : List AV, c1.length = 3 ∧ H = [.box r.cs, .box c1]) ∧ ∀ j (h : j < r.cols.length), j < i → ¬ r.cols[j] = c) 0 ?_ ?_
  · simp
  rintro i e H ⟨e1, e2, e3, e6, e7, hi, ⟨c1, hc1, rfl⟩, hno⟩
  match c1, hc1 with
  | [u0, u1, u2], _ =>
  by_cases hlt : i < r.cols.length
  · have ew := wrap_next hlt (by omega)
    simp [e1, e2, e3, e6, e7, hlt]
    refine condK_of (fun h => ?_) (fun h => ?_)
    · simp at h
      have hix := idxF_some hlt h hno
      rw [hix]
      by_cases hw : i < row.length
      · rw [pickF_in hw]
        simp [e1, e2, e3, e6, e7, hlt, hw]
        exact Frz.of_cl2 (by simp)
      · rw [pickF_out (by omega)]
        simp [e1, e2, e3, e6, e7, hlt, hw]
        exact Frz.of_cl2 (by simp [zV4])
    · simp at h
      simp [e1, e2, e3, e6, e7, hlt]
      refine ⟨i + 1, by omega, ew, by omega, fun j hj hji => ?_⟩
      rcases Nat.lt_or_ge j i with h2 | h2
      · exact hno j hj h2
      · have : j = i := by omega
        subst this; exact h
  · have : i = r.cols.length := by omega
    subst this
    have hn : c ∉ r.cols := fun h => by
      obtain ⟨j, hj, he⟩ := List.getElem_of_mem h
      exact hno j hj hj he
    rw [idxF_none hn, pickF_out (by omega)]
    simp [e1, e2, e3, e6, e7]
    exact Frz.of_cl2 (by simp [zV4])
theorem T_rvalues24 (r : Rel) (row : List Val) (cs : List Int) (hr : r.cols.length ≤ 1000) (hrow : row.length ≤ 1000) (hc : cs.length ≤ 1000) : T Tryz.prog 88 [r.av, rowA row, .sl .no (ints' cs)] (rowA (valsF r.cols row cs)) := by
  refine T.introF (TS.body mix Tryz.func88 (by kernel_rfl) rfl (by kernel_rfl) (by simp) ?_)
  simp
  refine vc_loop (fun i : Nat => cs.length - i) (fun i e H => e 1 = rowA row ∧ e 2 = .sl .no (ints' cs) ∧ e 3 = .ptr 0 0 ∧ e 8 = .int .i64 i ∧ i ≤ cs.length ∧ ∃ J, H = .box r.cs :: J ∧ GrowK 1 3 J (e 7) (vals' (valsF r.cols row (cs.take i)))) 0 ?_ ?_
  · simp [GrowK, valsF]
  rintro i e H ⟨e1, e2, e3, e8, hi, J, rfl, hg⟩
  by_cases hlt : i < cs.length
  · have ew := wrap_next hlt (by omega)
    have k := T_rvalue24 r row cs[i] hr hrow
    have hnx : valsF r.cols row (cs.take (i + 1)) = valsF r.cols row (cs.take i) ++ [pickF row (idxF r.cols cs[i])] := by unfold valsF; rw [take_next hlt, List.map_append]; rfl
    have hml : (valsF r.cols row (cs.take i)).length = i := by simp [valsF]; omega
    simp [e1, e2, e3, e8, hlt]
    refine TDK.callW k (Dws.self (by simp)) ?_
    rcases hg with ⟨ge, gx⟩ | ⟨t, gx, ht⟩
    · rw [avs_eq_nil] at ge
      simp [e1, e2, e3, e8, hlt, gx]
      refine ⟨i + 1, by omega, ew, by omega, ?_⟩
      rw [hnx]
      exact GrowK.first (f := Val.av) ge rfl
    · have hw := ht
      simp only [avs_length] at hw
      simp [e1, e2, e3, e8, hlt, gx, hw]
      refine ⟨by omega, i + 1, by omega, ew, by omega, ?_⟩
      rw [hnx]
      exact GrowK.more (f := Val.av) ht (by omega)
  · have : i = cs.length := by omega
    subst this
    rw [List.take_length] at hg
    obtain ⟨own, gx⟩ := hg.own
    simp [e1, e2, e3, e8, gx]
    exact Frz.slN (f := Val.av)
end Go.Proofs.YtjplcdeaedflpaaGreatDoor.PL
namespace Go.Proofs.YtjplcdeaedflpaaGreatDoor.PL
open Go.Proofs
set_option linter.unusedVariables false
set_option linter.unusedSimpArgs false
theorem filter_nextR {α : Type} {q : α → Bool} {l : List α} {i : Nat} (h : i < l.length) : (l.take (i + 1)).filter q = (l.take i).filter q ++ if q l[i] = true then [l[i]] else [] := by
  rw [take_next h, List.filter_append]
  cases hq : q l[i] <;> simp [hq]
theorem T_cloneI4 (l : List Int) (hl : l.length ≤ 1000000) : T Tryz.prog 89 [.sl .no (ints' l)] (.sl .no (ints' l)) := by
  refine T.introF (TS.body mix Tryz.func89 (by kernel_rfl) rfl (by kernel_rfl) (by simp) ?_)
  simp
  refine ⟨by simp [isSlT, un_22], ?_⟩
  by_cases h : l = []
  · subst h
    simp
    exact ⟨.sl .nil rfl fun n h => h, .sl .nil rfl fun n h => h⟩
  · simp [h]
    exact ⟨by omega, Frz.slN (f := AV.int .i64)⟩
theorem T_cloneV4 (l : List Val) (hl : l.length ≤ 1000000) : T Tryz.prog 102 [.sl .no (vals' l)] (.sl .no (vals' l)) := by
  refine T.introF (TS.body mix Tryz.func102 (by kernel_rfl) rfl (by kernel_rfl) (by simp) ?_)
  simp
  refine ⟨by simp [isSlT, un_59], ?_⟩
  by_cases h : l = []
  · subst h
    simp
    exact ⟨.sl .nil rfl fun n h => h, .sl .nil rfl fun n h => h⟩
  · simp [h]
    exact ⟨by omega, Frz.slN (f := Val.av)⟩
theorem T_cloneR4 (l : List (List Val)) (hl : l.length ≤ 1000000) : T Tryz.prog 90 [.sl .no (rows' l)] (.sl .no (rows' l)) := by
  refine T.introF (TS.body mix Tryz.func90 (by kernel_rfl) rfl (by kernel_rfl) (by simp) ?_)
  simp
  refine ⟨by simp [isSlT, un_23], ?_⟩
  by_cases h : l = []
  · subst h
    simp
    exact ⟨.sl .nil rfl fun n h => h, .sl .nil rfl fun n h => h⟩
  · simp [h]
    exact ⟨by omega, Frz.slN (f := fun r => AV.sl .no (vals' r))⟩
/-- what is kept of a list -/
theorem S_keepI (H : List HO) (own : Own) (f : FuncId) (caps : List AV) (l : List Int) (q : Int → Bool) (hl : l.length ≤ 1000000) (hq : ∀ x, x ∈ l → ∀ J, TS Tryz.prog f (.int .i64 x :: caps) (H ++ J) (pt (.bool (q x)) (H ++ J))) : TS Tryz.prog 97 [.sl own (ints' l), .fn (.func f) [] caps] H (pt (.sl .no (ints' (l.filter q))) H) := by
  refine TS.dropF (H0 := H) ?_ (Nat.le_refl _) (fun h hm => .inl hm)
  refine TS.body mix Tryz.func97 (by kernel_rfl) rfl (by kernel_rfl) (by simp) ?_
  simp
  refine vc_loop (fun i : Nat => l.length - i) (fun i e H' => e 1 = .fn (.func f) [] caps ∧ e 8 = .sl own (ints' l) ∧ e 9 = .int .i64 l.length ∧ e 10 = .int .i64 i ∧ i ≤ l.length ∧ ∃ J, H' = H ++ J ∧ GrowB 1 H J (e 5) (ints' ((l.take i).filter q))) 0 ?_ ?_
  · simp
    exact .nil
  rintro i e H' ⟨e1, e8, e9, e10, hi, J, rfl, hg⟩
  by_cases hlt : i < l.length
  · have ew := wrap_next hlt (by omega)
    have hqi := hq l[i] (List.getElem_mem hlt) J
    have hnx := filter_nextR (q := q) hlt
    have hfl : ((l.take i).filter q).length ≤ i := Nat.le_trans (List.length_filter_le ..) (by simp; omega)
    simp [e1, e8, e9, e10, hlt]
    refine TS.pt hqi ?_
    cases hc : q l[i] with
    | true =>
      rw [hc, if_pos rfl] at hnx
      rcases hg with ⟨ge, gx⟩ | ⟨t, gx, ht⟩
      · rw [avs_eq_nil] at ge
        simp [e1, e8, e9, e10, hlt, hc, gx]
        refine ⟨i + 1, by omega, ew, by omega, ?_⟩
        rw [hnx]
        exact GrowB.first (f := AV.int .i64) ge (by simp)
      · have hw := ht
        simp only [avs_length] at hw
        have hw' : (H ++ J)[H.length + t]? = some (.spare ((l.take i).filter q).length 1) := by rw [List.getElem?_append_right (by omega)]; simpa using hw
        simp [e1, e8, e9, e10, hlt, hc, gx, hw']
        refine ⟨by omega, i + 1, by omega, ew, by omega, ?_⟩
        rw [hnx]
        exact GrowB.more (f := AV.int .i64) ht (by omega)
    | false =>
      rw [hc, if_neg (by simp), List.append_nil] at hnx
      simp [e1, e8, e9, e10, hlt, hc]
      exact ⟨i + 1, by omega, ew, by omega, by rw [hnx]; exact hg⟩
  · have : i = l.length := by omega
    subst this
    rw [List.take_length] at hg
    obtain ⟨own, gx⟩ := hg.own
    simp [e1, e8, e9, e10, gx]
    exact Frz.slN (f := AV.int .i64)
/-- what is kept of a list -/
theorem S_keepR (H : List HO) (own : Own) (f : FuncId) (caps : List AV) (l : List (List Val)) (q : List Val → Bool) (hl : l.length ≤ 1000000) (hq : ∀ x, x ∈ l → ∀ J, TS Tryz.prog f (rowA x :: caps) (H ++ J) (pt (.bool (q x)) (H ++ J))) : TS Tryz.prog 85 [.sl own (rows' l), .fn (.func f) [] caps] H (pt (.sl .no (rows' (l.filter q))) H) := by
  refine TS.dropF (H0 := H) ?_ (Nat.le_refl _) (fun h hm => .inl hm)
  refine TS.body mix Tryz.func85 (by kernel_rfl) rfl (by kernel_rfl) (by simp) ?_
  simp
  refine vc_loop (fun i : Nat => l.length - i) (fun i e H' => e 1 = .fn (.func f) [] caps ∧ e 8 = .sl own (rows' l) ∧ e 9 = .int .i64 l.length ∧ e 10 = .int .i64 i ∧ i ≤ l.length ∧ ∃ J, H' = H ++ J ∧ GrowB 1 H J (e 5) (rows' ((l.take i).filter q))) 0 ?_ ?_
  · simp
    exact .nil
  rintro i e H' ⟨e1, e8, e9, e10, hi, J, rfl, hg⟩
  by_cases hlt : i < l.length
  · have ew := wrap_next hlt (by omega)
    have hqi := hq l[i] (List.getElem_mem hlt) J
    have hnx := filter_nextR (q := q) hlt
    have hfl : ((l.take i).filter q).length ≤ i := Nat.le_trans (List.length_filter_le ..) (by simp; omega)
    simp [e1, e8, e9, e10, hlt]
    refine TS.pt hqi ?_
    cases hc : q l[i] with
    | true =>
      rw [hc, if_pos rfl] at hnx
      rcases hg with ⟨ge, gx⟩ | ⟨t, gx, ht⟩
      · rw [avs_eq_nil] at ge
        simp [e1, e8, e9, e10, hlt, hc, gx]
        refine ⟨i + 1, by omega, ew, by omega, ?_⟩
        rw [hnx]
        exact GrowB.first (f := fun r => AV.sl .no (vals' r)) ge (by simp)
      · have hw := ht
        simp only [avs_length] at hw
        have hw' : (H ++ J)[H.length + t]? = some (.spare ((l.take i).filter q).length 1) := by rw [List.getElem?_append_right (by omega)]; simpa using hw
        simp [e1, e8, e9, e10, hlt, hc, gx, hw']
        refine ⟨by omega, i + 1, by omega, ew, by omega, ?_⟩
        rw [hnx]
        exact GrowB.more (f := fun r => AV.sl .no (vals' r)) ht (by omega)
    | false =>
      rw [hc, if_neg (by simp), List.append_nil] at hnx
      simp [e1, e8, e9, e10, hlt, hc]
      exact ⟨i + 1, by omega, ew, by omega, by rw [hnx]; exact hg⟩
  · have : i = l.length := by omega
    subst this
    rw [List.take_length] at hg
    obtain ⟨own, gx⟩ := hg.own
    simp [e1, e8, e9, e10, gx]
    exact Frz.slN (f := fun r => AV.sl .no (vals' r))
theorem T_scopied (l : List (List Val)) (hl : l.length ≤ 100000) (hr : ∀ x, x ∈ l → x.length ≤ 1000000) : T Tryz.prog 64 [.sl .no (rows' l)] (.sl .no (rows' l)) := by
  refine T.introF (TS.body mix Tryz.func64 (by kernel_rfl) rfl (by kernel_rfl) (by simp) ?_)
  simp
  refine vc_loop (fun i : Nat => l.length - i) (fun i e H => e 6 = .sl .no (rows' l) ∧ e 7 = .int .i64 l.length ∧ e 8 = .int .i64 i ∧ i ≤ l.length ∧ Grow1 1 H (e 3) (rows' (l.take i))) 0 ?_ ?_
  · simp
    exact .nil
  rintro i e H ⟨e6, e7, e8, hi, hg⟩
  by_cases hlt : i < l.length
  · have ew := wrap_next hlt (by omega)
    have k := T_cloneV4 l[i] (hr _ (List.getElem_mem hlt))
    have hnx : l.take (i + 1) = l.take i ++ [l[i]] := take_next hlt
    have hml : (l.take i).length = i := by simp; omega
    simp [e6, e7, e8, hlt]
    refine TS.callW k (Dws.self (by simp)) ?_
    rcases hg with ⟨ge, gx⟩ | ⟨t, gx, ht⟩
    · rw [avs_eq_nil] at ge
      simp [e6, e7, e8, hlt, gx]
      refine ⟨i + 1, by omega, ew, by omega, ?_⟩
      rw [hnx]
      exact Grow1.first (f := fun r => AV.sl .no (vals' r)) ge rfl
    · have hw := ht
      simp only [avs_length] at hw
      simp [e6, e7, e8, hlt, gx, hw]
      refine ⟨by omega, i + 1, by omega, ew, by omega, ?_⟩
      rw [hnx]
      exact Grow1.more (f := fun r => AV.sl .no (vals' r)) ht (by omega)
  · have : i = l.length := by omega
    subst this
    rw [List.take_length] at hg
    obtain ⟨own, gx⟩ := hg.own
    simp [e6, e7, e8, gx]
    exact Frz.slN (f := fun r => AV.sl .no (vals' r))
theorem T_sheld (r : Rel) (hr : OkR r) : T Tryz.prog 54 [r.av] (heldR r).av := by
  have k1 := T_sright r hr
  have k2 := T_cloneI4 r.cols (by have := hr.nc; omega)
  have k3 := T_cloneR4 r.rows (by have := hr.nr; omega)
  unfold heldR
  refine T.introF (TS.body mix Tryz.func54 (by kernel_rfl) rfl (by kernel_rfl) (by simp) ?_)
  simp
  refine TS.callW k1 (Dws.self (by simp)) ?_
  cases h : rightR r with
  | false =>
    simp [zR]
    exact .agg (.cons (Frz.slN (f := AV.int .i64) (l := [])) (.cons (Frz.slN (f := fun r => AV.sl .no (vals' r)) (l := [])) .nil))
  | true =>
    simp
    refine TDK.callW k2 (Dws.self (by simp)) ?_
    simp
    refine TDK.callW k3 (Dws.self (by simp)) ?_
    simp
    exact .agg (.cons (Frz.slN (f := AV.int .i64)) (.cons (Frz.slN (f := fun r => AV.sl .no (vals' r))) .nil))
theorem T_rright24 (r : Rel) (hr : OkR r) : T Tryz.prog 13 [r.av] (.bool (rightR r)) := by
  have hnc := hr.nc
  have hnr := hr.nr
  refine T.intro (TS.body mix Tryz.func13 (by kernel_rfl) rfl (by kernel_rfl) (by simp) ?_)
  simp
  refine vc_loop (fun i : Nat => r.cols.length - i) (fun i e H => e 1 = .ptr 0 0 ∧ e 3 = .int .i64 i ∧ i ≤ r.cols.length ∧ H = [.box r.cs] ∧ ∀ j (h : j + 1 < r.cols.length), j < i → r.cols[j] < r.cols[j + 1]) 0 ?_ ?_
  · simp
  rintro i e H ⟨e1, e3, hi, rfl, hno⟩
  have ew : IntKind.i64.wrap ((i : Int) + 1) = ((i + 1 : Nat) : Int) := by rw [wrap_i64 (by omega) (by omega)]; omega
  obtain ⟨m, hm⟩ : ∃ m, m = i + 1 := ⟨_, rfl⟩
  rw [← hm] at ew
  by_cases hlt : i + 1 < r.cols.length
  · have hltm : m < r.cols.length := by omega
    have hlt3 : i < r.cols.length := by omega
    simp [e1, e3, ew, hltm, hlt3]
    refine condK_of (fun c => ?_) (fun c => ?_)
    · simp at c
      have : rightR r = false := by
        unfold rightR
        rw [risesB_no hlt (by subst hm; omega)]
        rfl
      simp [this]
    · simp at c
      simp [e1, e3, ew]
      refine ⟨i + 1, by omega, by omega, by omega, fun j h hj => ?_⟩
      rcases Nat.lt_or_ge j i with h2 | h2
      · exact hno j h h2
      · have : j = i := by omega
        subst this; subst hm; exact c
  · have hge : ¬ m < r.cols.length := by omega
    have hr2 : risesB r.cols = true := risesB_next fun j h => hno j h (by omega)
    simp [e1, e3, ew, hge]
    refine vc_loop (fun i : Nat => r.rows.length - i) (fun i e H => e 1 = .ptr 0 0 ∧ e 4 = .int .i64 i ∧ i ≤ r.rows.length ∧ H = [.box r.cs] ∧ ∀ j (h : j < r.rows.length), j < i → wideB r.cols.length r.rows[j] = false) 0 ?_ ?_
    · simp [e1]
    rintro i e H ⟨e1, e4, hi, rfl, hno⟩
    by_cases hlt : i < r.rows.length
    · have ew := wrap_next hlt (by omega)
      have hrow := (hr.row _ (List.getElem_mem hlt)).1
      by_cases hw : (r.rows[i]).length = r.cols.length
      · simp [e1, e4, hlt, hw]
        refine ⟨i + 1, by omega, ew, by omega, fun j h hj => ?_⟩
        rcases Nat.lt_or_ge j i with h2 | h2
        · exact hno j h h2
        · have : j = i := by omega
          subst this; simp [wideB, hw]
      · have hw2 : ¬ ((r.rows[i]).length : Int) = r.cols.length := by omega
        have : rightR r = false := by
          unfold rightR
          have : r.rows.any (wideB r.cols.length) = true := List.any_eq_true.2 ⟨_, List.getElem_mem hlt, by simp [wideB, hw]⟩
          rw [this]; simp
        simp [e1, e4, hlt, hw2, this]
    · have : i = r.rows.length := by omega
      subst this
      have : rightR r = true := by
        unfold rightR
        have : r.rows.any (wideB r.cols.length) = false := by
          rw [List.any_eq_false]
          intro x hx
          obtain ⟨j, hj, rfl⟩ := List.getElem_of_mem hx
          simp [hno j hj hj]
        rw [this, hr2]; rfl
      simp [e1, e4, this]
theorem T_rheld24 (r : Rel) (hr : OkR r) : T Tryz.prog 52 [r.av] (heldR r).av := by
  have k1 := T_rright24 r hr
  unfold heldR
  refine T.introF (TS.body mix Tryz.func52 (by kernel_rfl) rfl (by kernel_rfl) (by simp) ?_)
  simp
  refine TS.callW k1 (Dws.self (by simp)) ?_
  cases h : rightR r with
  | false =>
    simp [zR]
    exact .agg (.cons (Frz.slN (f := AV.int .i64) (l := [])) (.cons (Frz.slN (f := fun r => AV.sl .no (vals' r)) (l := [])) .nil))
  | true =>
    simp
    exact .agg (.cons (Frz.slN (f := AV.int .i64)) (.cons (Frz.slN (f := fun r => AV.sl .no (vals' r))) .nil))
end Go.Proofs.YtjplcdeaedflpaaGreatDoor.PL
namespace Go.Proofs.YtjplcdeaedflpaaGreatDoor.PL
open Go.Proofs
set_option linter.unusedVariables false
set_option linter.unusedSimpArgs false
abbrev PlL := List (ByteArray × (Own × List Int))
abbrev plA (L : PlL) : List (AV × AV) := mpA AV.str (oslA (AV.int .i64)) L
/-- the places of a key -/
def placeK (k : ByteArray) (L : PlL) : List Int := match getL k L with | some p => p.2 | none => []
def idsK (kf : Nat → ByteArray) (k : ByteArray) (n : Nat) : List Int := ((List.range n).filter fun j => decide (kf j = k)).map fun j : Nat => (j : Int)
theorem idsK_next {kf : Nat → ByteArray} {k : ByteArray} {n : Nat} : idsK kf k (n + 1) = idsK kf k n ++ if kf n = k then [(n : Int)] else [] := by
  unfold idsK
  rw [List.range_succ, List.filter_append, List.map_append]
  by_cases h : kf n = k <;> simp [h]
theorem idsK_len (kf : Nat → ByteArray) (k : ByteArray) (n : Nat) : (idsK kf k n).length ≤ n := by
  unfold idsK
  rw [List.length_map]
  exact Nat.le_trans (List.length_filter_le ..) (by simp)
theorem placeK_put {k k' : ByteArray} {o : Own} {c : List Int} {L : PlL} : placeK k' (putL k (o, c) L) = if k' = k then c else placeK k' L := by
  unfold placeK
  rw [getL_put]
  by_cases h : k' = k <;> simp [h]
/-- each of the lists is one that grows, and each has room of its own -/
structure TokM (n : Nat) (M : List HO) (L : PlL) : Prop where
  at' : ∀ (j : Nat) (k : ByteArray) (o : Own) (c : List Int), L[j]? = some (k, (o, c)) → ∃ t, n ≤ t ∧ o = .tok t ∧ M[t]? = some (.spare c.length 1)
  inj : ∀ (i j t : Nat) (k k' : ByteArray) (c c' : List Int), L[i]? = some (k, (.tok t, c)) → L[j]? = some (k', (.tok t, c')) → i = j
theorem TokM.nil (n : Nat) (M : List HO) : TokM n M [] := ⟨fun _ _ _ _ h => by simp at h, fun _ _ _ _ _ _ _ h => by simp at h⟩
theorem TokM.push {n : Nat} {M : List HO} {L : PlL} (h : TokM n M L) {k : ByteArray} {t m : Nat} {c : List Int} {x : HO} (hm : m < n) (hn : n ≤ M.length) (ht : t = M.length) (hk : getL k L = none) (hc : c.length = 1) :
    TokM n ((M ++ [HO.spare 1 1]).set m x) (putL k (.tok t, c) L) := by
  subst ht
  rw [putL_none hk]
  have old : ∀ (j u : Nat) (k' : ByteArray) (d : List Int), L[j]? = some (k', (.tok u, d)) → u < M.length := fun j u k' d e => by
    obtain ⟨t, _, e1, e2⟩ := h.at' j k' _ d e
    cases e1
    exact (List.getElem?_eq_some_iff.1 e2).1
  have key : ∀ (j : Nat) (k' : ByteArray) (o : Own) (d : List Int), (L ++ [(k, (Own.tok M.length, c))])[j]? = some (k', (o, d)) → L[j]? = some (k', (o, d)) ∨ (j = L.length ∧ o = .tok M.length ∧ d = c) := fun j k' o d e => by
    rcases Nat.lt_or_ge j L.length with hj | hj
    · rw [List.getElem?_append_left hj] at e; exact .inl e
    · obtain rfl : j = L.length := by have := (List.getElem?_eq_some_iff.1 e).1; simp at this; omega
      simp at e
      exact .inr ⟨rfl, e.2.1.symm, e.2.2.symm⟩
  refine ⟨fun j k' o d e => ?_, fun i j t k1 k2 c1 c2 e1 e2 => ?_⟩
  · rcases key j k' o d e with e | ⟨_, rfl, rfl⟩
    · obtain ⟨t, g1, g2, g3⟩ := h.at' j k' o d e
      refine ⟨t, g1, g2, ?_⟩
      rw [List.getElem?_set_ne (by omega), List.getElem?_append_left (List.getElem?_eq_some_iff.1 g3).1]
      exact g3
    · refine ⟨_, hn, rfl, ?_⟩
      rw [List.getElem?_set_ne (by omega), List.getElem?_append_right (Nat.le_refl _), hc]
      simp
  · rcases key _ _ _ _ e1 with e1 | ⟨rfl, h1, _⟩ <;> rcases key _ _ _ _ e2 with e2 | ⟨rfl, h2, _⟩
    · exact h.inj _ _ _ _ _ _ _ e1 e2
    · cases h2; have := old _ _ _ _ e1; omega
    · cases h1; have := old _ _ _ _ e2; omega
    · rfl
theorem TokM.grow {n : Nat} {M : List HO} {L : PlL} (h : TokM n M L) {k : ByteArray} {t m q : Nat} {c d : List Int} {x : HO} (hm : m < n) (hk : getL k L = some (.tok t, c)) (hq : q = d.length) :
    TokM n ((M.set t (.spare q 1)).set m x) (putL k (.tok t, d) L) := by
  subst hq
  obtain ⟨p, hp⟩ : ∃ p, lkp k L 0 = some (p, (.tok t, c)) := by
    unfold getL at hk
    rw [Option.map_eq_some_iff] at hk
    obtain ⟨⟨p, y⟩, h1, h2⟩ := hk
    exact ⟨p, by rw [h1]; cases h2; rfl⟩
  have hat := (lkp_at hp).2
  rw [Nat.sub_zero] at hat
  have hpl := (List.getElem?_eq_some_iff.1 hat).1
  obtain ⟨u, ht0, e1, hsp⟩ := h.at' p k _ c hat
  cases e1
  have htl := (List.getElem?_eq_some_iff.1 hsp).1
  have hput : putL k (Own.tok t, d) L = L.set p (k, (Own.tok t, d)) := by unfold putL; rw [hp]
  rw [hput]
  have key : ∀ (j : Nat) (k' : ByteArray) (o : Own) (d' : List Int), (L.set p (k, (Own.tok t, d)))[j]? = some (k', (o, d')) → (j = p ∧ o = .tok t ∧ d' = d) ∨ (j ≠ p ∧ L[j]? = some (k', (o, d'))) := fun j k' o d' e => by
    by_cases hj : j = p
    · subst hj
      rw [List.getElem?_set_self hpl] at e
      simp at e
      exact .inl ⟨rfl, e.2.1.symm, e.2.2.symm⟩
    · rw [List.getElem?_set_ne (fun q => hj q.symm)] at e
      exact .inr ⟨hj, e⟩
  refine ⟨fun j k' o d' e => ?_, fun i j u k1 k2 c1 c2 e1 e2 => ?_⟩
  · rcases key j k' o d' e with ⟨_, rfl, rfl⟩ | ⟨hj, e⟩
    · refine ⟨t, ht0, rfl, ?_⟩
      rw [List.getElem?_set_ne (by omega), List.getElem?_set_self htl]
    · obtain ⟨u, g1, g2, g3⟩ := h.at' j k' o d' e
      subst g2
      have : t ≠ u := by rintro rfl; exact hj (h.inj _ _ _ _ _ _ _ e hat)
      refine ⟨u, g1, rfl, ?_⟩
      rw [List.getElem?_set_ne (by omega), List.getElem?_set_ne this]
      exact g3
  · rcases key _ _ _ _ e1 with ⟨hi, h1, _⟩ | ⟨hi, f1⟩ <;> rcases key _ _ _ _ e2 with ⟨hj, h2, _⟩ | ⟨hj, f2⟩
    · omega
    · cases h1
      have := h.inj _ _ _ _ _ _ _ hat f2
      omega
    · cases h2
      have := h.inj _ _ _ _ _ _ _ f1 hat
      omega
    · exact h.inj _ _ _ _ _ _ _ f1 f2
/-- the memory in which rows are put by their keys -/
structure BM (H : List HO) (r : Rel) (cs : List Int) (L : PlL) (M : List HO) : Prop where
  pre : ∀ i, i < H.length → M[i]? = H[i]?
  len : H.length + 4 ≤ M.length
  g0 : M[H.length]? = some (.box r.cs)
  g1 : ∃ c4 : List AV, c4.length = 4 ∧ M[H.length + 1]? = some (.box c4)
  gm : M[H.length + 2]? = some (.mp (plA L) (some 0))
  g3 : M[H.length + 3]? = some (.box [.sl .no (ints' r.cols), .sl .no (rows' r.rows), .sl .no (ints' cs), .map (H.length + 2)])
  tok : TokM (H.length + 4) M L
theorem BM.push {H : List HO} {r : Rel} {cs : List Int} {L : PlL} {M : List HO} (h : BM H r cs L M) {k : ByteArray} {t : Nat} {c : List Int} (ht : t = M.length) (hk : getL k L = none) (hc : c.length = 1) :
    BM H r cs (putL k (.tok t, c) L) ((M ++ [HO.spare 1 1]).set (H.length + 2) (.mp (plA (putL k (.tok t, c) L)) (some 0))) := by
  have hl := h.len
  have old : ∀ i, i < M.length → i ≠ H.length + 2 → ((M ++ [HO.spare 1 1]).set (H.length + 2) (.mp (plA (putL k (.tok t, c) L)) (some 0)))[i]? = M[i]? := fun i hi hne => by
    rw [List.getElem?_set_ne (fun q => hne q.symm), List.getElem?_append_left hi]
  refine ⟨fun i hi => ?_, by simp; omega, ?_, ?_, ?_, ?_, h.tok.push (by omega) (by omega) ht hk hc⟩
  · rw [old i (by omega) (by omega)]; exact h.pre i hi
  · rw [old _ (by omega) (by omega)]; exact h.g0
  · rw [old _ (by omega) (by omega)]; exact h.g1
  · rw [List.getElem?_set_self (by simp; omega)]
  · rw [old _ (by omega) (by omega)]; exact h.g3
theorem BM.grow {H : List HO} {r : Rel} {cs : List Int} {L : PlL} {M : List HO} (h : BM H r cs L M) {k : ByteArray} {t q : Nat} {c d : List Int} (hk : getL k L = some (.tok t, c)) (hq : q = d.length) :
    BM H r cs (putL k (.tok t, d) L) ((M.set t (.spare q 1)).set (H.length + 2) (.mp (plA (putL k (.tok t, d) L)) (some 0))) := by
  have hl := h.len
  have ht : H.length + 4 ≤ t := by
    unfold getL at hk
    rw [Option.map_eq_some_iff] at hk
    obtain ⟨⟨p, y⟩, h1, h2⟩ := hk
    cases h2
    have hat := (lkp_at h1).2
    obtain ⟨u, g1, g2, _⟩ := h.tok.at' _ _ _ _ hat
    cases g2
    exact g1
  have old : ∀ i, i < H.length + 4 → i ≠ H.length + 2 → ((M.set t (.spare q 1)).set (H.length + 2) (.mp (plA (putL k (.tok t, d) L)) (some 0)))[i]? = M[i]? := fun i hi hne => by
    rw [List.getElem?_set_ne (fun q => hne q.symm), List.getElem?_set_ne (by omega)]
  refine ⟨fun i hi => ?_, by simp; omega, ?_, ?_, ?_, ?_, h.tok.grow (by omega) hk hq⟩
  · rw [old i (by omega) (by omega)]; exact h.pre i hi
  · rw [old _ (by omega) (by omega)]; exact h.g0
  · rw [old _ (by omega) (by omega)]; exact h.g1
  · rw [List.getElem?_set_self (by simp; omega)]
  · rw [old _ (by omega) (by omega)]; exact h.g3
theorem BM.app {H : List HO} {r : Rel} {cs : List Int} {L : PlL} {M : List HO} (h : BM H r cs L M) : ∃ J, M = H ++ J := by
  refine ⟨M.drop H.length, ?_⟩
  have hl := h.len
  apply List.ext_getElem?
  intro i
  rcases Nat.lt_or_ge i H.length with hi | hi
  · rw [List.getElem?_append_left hi]; exact h.pre i hi
  · rw [List.getElem?_append_right hi, List.getElem?_drop]; congr 1; omega
/-- the key of a row's values -/
def keyF (r : Rel) (cs : List Int) (j : Nat) : ByteArray := keyR (valsF r.cols (r.rows.getD j []) cs)
theorem pickF_mem {r : List Val} {p : Int} : pickF r p = zV4 ∨ pickF r p ∈ r := by
  unfold pickF
  split
  · rename_i h
    obtain ⟨n, rfl⟩ := Int.eq_ofNat_of_zero_le h.1
    have hn : n < r.length := by omega
    right
    simp [hn]
  · exact .inl rfl
theorem valsF_ok {r : Rel} (hr : OkR r) {row : List Val} (h : row ∈ r.rows) (cs : List Int) : i64V (valsF r.cols row cs) ∧ ∀ v, v ∈ valsF r.cols row cs → v.s.size ≤ 2000 := by
  have hrow := hr.row row h
  have key : ∀ v, v ∈ valsF r.cols row cs → v = zV4 ∨ v ∈ row := fun v hv => by
    obtain ⟨c, _, rfl⟩ := List.mem_map.1 hv
    exact pickF_mem
  refine ⟨fun v hv => ?_, fun v hv => ?_⟩
  · rcases key v hv with rfl | h
    · simp [zV4]
    · exact (hrow.2 v h).2
  · rcases key v hv with rfl | h
    · simp [zV4]
    · exact (hrow.2 v h).1
theorem S_build (H : List HO) (r : Rel) (cs : List Int) (hr : OkR r) (hc : cs.length ≤ 40) : TS Tryz.prog 56 [r.av, .sl .no (ints' cs)] H (fun x H' => ∃ L, x = .agg [.sl .no (ints' r.cols), .sl .no (rows' r.rows), .sl .no (ints' cs), .map (H.length + 2)] ∧ (∃ M, BM H r cs L M ∧ ∃ c4 : List AV, H' = M.set (H.length + 1) (.box c4)) ∧ ∀ k, placeK k L = idsK (keyF r cs) k r.rows.length) := by
  have hnr := hr.nr
  have hnc := hr.nc
  refine TS.bodyM [100006, 1060904, 1060906, 1061001, 1061004, 1061006] mix Tryz.func56 (by kernel_rfl) rfl (by kernel_rfl) (by simp) ?_
  simp
  refine vc_loop (fun i : Nat => r.rows.length - i) (fun i e M => e 1 = .sl .no (ints' cs) ∧ e 2 = .ptr H.length 0 ∧ e 4 = .ptr (H.length + 1) 0 ∧ e 5 = .ptr (H.length + 3) 0 ∧ e 14 = .sl .no (rows' r.rows) ∧ e 15 = .int .i64 r.rows.length ∧ e 16 = .int .i64 i ∧ i ≤ r.rows.length ∧ ∃ L, BM H r cs L M ∧ ∀ k, placeK k L = idsK (keyF r cs) k i) 0 ?_ ?_
  · simp
    refine ⟨[], ⟨fun i hi => by rw [List.getElem?_append_left hi], by simp, by simp, ⟨_, rfl, by rw [app_atn]; rfl⟩, by rw [app_atn]; rfl, by rw [app_atn]; rfl, TokM.nil _ _⟩, fun k => rfl⟩
  rintro i e M ⟨e1, e2, e4, e5, e14, e15, e16, hi, L, hb, hpl⟩
  by_cases hlt : i < r.rows.length
  · have ew := wrap_next hlt (by omega)
    have hrow := hr.row _ (List.getElem_mem hlt)
    have k1 := T_svalues r r.rows[i] cs hnc hrow.1 (by omega)
    have hv := valsF_ok hr (List.getElem_mem hlt) cs
    have k2 := T_rowKey (valsF r.cols r.rows[i] cs) (by simpa [valsF] using hc) hv.1 hv.2
    have hkf : keyF r cs i = keyR (valsF r.cols r.rows[i] cs) := by unfold keyF; rw [List.getD_eq_getElem?_getD, List.getElem?_eq_getElem hlt]; rfl
    have g0 := hb.g0
    simp [e1, e2, e4, e5, e14, e15, e16, hlt, g0]
    refine TS.callW k1 (Dws.self (by simp)) ?_
    simp [e1, e2, e4, e5, e14, e15, e16, hlt, g0]
    refine TS.callW k2 (Dws.self (by simp)) ?_
    rw [← hkf] at *
    generalize hkk : keyF r cs i = kk at *
    have hpk := hpl kk
    have gm := hb.gm
    have g3 := hb.g3
    have hM := hb.len
    cases hget : getL kk L with
    | none =>
      have hil : idsK (keyF r cs) kk i = [] := by rw [← hpk]; unfold placeK; rw [hget]
      have g3' : ∀ Y : List HO, (M ++ Y)[H.length + 3]? = some (.box [.sl .no (ints' r.cols), .sl .no (rows' r.rows), .sl .no (ints' cs), .map (H.length + 2)]) := fun Y => by rw [List.getElem?_append_left (by omega)]; exact g3
      have gm' : ∀ Y : List HO, (M ++ Y)[H.length + 2]? = some (.mp (plA L) (some 0)) := fun Y => by rw [List.getElem?_append_left (by omega)]; exact gm
      have hput : ∀ t, putK (.str kk) (.sl (.tok t) [.int .i64 (i : Int)]) (plA L) = plA (putL kk (.tok t, [(i : Int)]) L) := fun t => putK_mpA (kf := AV.str) (g := oslA (AV.int .i64)) (k := kk) (v := (Own.tok t, [(i : Int)])) (l := L)
      simp [e1, e2, e4, e5, e14, e15, e16, hlt, g0, g3, gm, g3', gm', keys_str, found_mpA, hget, hput, -foundV]
      refine ⟨i + 1, by omega, ew, by omega, _, hb.push rfl hget rfl, fun k => ?_⟩
      rw [placeK_put, idsK_next, hkk]
      by_cases hk : k = kk
      · subst hk; simp [hil]
      · have : ¬ kk = k := fun h => hk h.symm
        simp [hk, this, hpl k]
    | some p =>
      obtain ⟨o, c⟩ := p
      have hil : c = idsK (keyF r cs) kk i := by rw [← hpk]; unfold placeK; rw [hget]
      have hcl := idsK_len (keyF r cs) kk i
      rw [← hil] at hcl
      obtain ⟨t, ht0, rfl, hsp⟩ : ∃ t, H.length + 4 ≤ t ∧ o = .tok t ∧ M[t]? = some (.spare c.length 1) := by
        have hget2 := hget
        unfold getL at hget2
        rw [Option.map_eq_some_iff] at hget2
        obtain ⟨⟨p, y⟩, h1, h2⟩ := hget2
        cases h2
        have hat := (lkp_at h1).2
        exact hb.tok.at' _ _ _ _ hat
      have g3' : ∀ z : HO, (M.set t z)[H.length + 3]? = some (.box [.sl .no (ints' r.cols), .sl .no (rows' r.rows), .sl .no (ints' cs), .map (H.length + 2)]) := fun z => by rw [List.getElem?_set_ne (by omega)]; exact g3
      have gm' : ∀ z : HO, (M.set t z)[H.length + 2]? = some (.mp (plA L) (some 0)) := fun z => by rw [List.getElem?_set_ne (by omega)]; exact gm
      have hput : putK (.str kk) (.sl (.tok t) (ints' (c ++ [(i : Int)]))) (plA L) = plA (putL kk (.tok t, c ++ [(i : Int)]) L) := putK_mpA (kf := AV.str) (g := oslA (AV.int .i64)) (k := kk) (v := (Own.tok t, c ++ [(i : Int)])) (l := L)
      simp [e1, e2, e4, e5, e14, e15, e16, hlt, g0, g3, gm, g3', gm', keys_str, found_mpA, hget, hput, hsp, oslA, -foundV]
      refine ⟨by omega, i + 1, by omega, ew, by omega, _, hb.grow hget (by simp), fun k => ?_⟩
      rw [placeK_put, idsK_next, hkk]
      by_cases hk : k = kk
      · subst hk; simp [hil]
      · have : ¬ kk = k := fun h => hk h.symm
        simp [hk, this, hpl k]
  · have : i = r.rows.length := by omega
    subst this
    have g3 := hb.g3
    obtain ⟨c4, h4, g1⟩ := hb.g1
    match c4, h4 with
    | [u0, u1, u2, u3], _ =>
    have hM := hb.len
    have gz : ∀ z : HO, (M.set (H.length + 1) z)[H.length + 1]? = some z := fun z => List.getElem?_set_self (by omega)
    simp [e1, e2, e4, e5, e14, e15, e16, g3, g1, gz]
    exact ⟨L, ⟨M, hb, _, rfl⟩, hpl⟩
end Go.Proofs.YtjplcdeaedflpaaGreatDoor.PL
namespace Go.Proofs.YtjplcdeaedflpaaGreatDoor.PL
open Go.Proofs
set_option linter.unusedVariables false
set_option linter.unusedSimpArgs false
/-- does the j-th row match? -/
def hitB (r : Rel) (cs : List Int) (key : List Val) (j : Nat) : Bool := matchV key (valsF r.cols (r.rows.getD j []) cs)
def hitI (r : Rel) (cs : List Int) (key : List Val) (j : Int) : Bool := hitB r cs key j.toNat
def hitsN (r : Rel) (cs : List Int) (key : List Val) : List Nat := (List.range r.rows.length).filter (hitB r cs key)
def hits (r : Rel) (cs : List Int) (key : List Val) : List Int := (hitsN r cs key).map fun j : Nat => (j : Int)
theorem hits_of {r : Rel} {cs : List Int} {L : PlL} (hL : ∀ k, placeK k L = idsK (keyF r cs) k r.rows.length) (key : List Val) : (placeK (keyR key) L).filter (hitI r cs key) = hits r cs key := by
  rw [hL]
  unfold idsK hits hitsN
  rw [List.filter_map, List.filter_filter]
  congr 1
  apply List.filter_congr
  intro j hj
  show (hitB r cs key ((j : Int).toNat) && decide (keyF r cs j = keyR key)) = hitB r cs key j
  rw [Int.toNat_natCast]
  cases h : hitB r cs key j with
  | false => rfl
  | true =>
    unfold hitB matchV at h
    simp only [Bool.and_eq_true, decide_eq_true_iff] at h
    have : keyF r cs j = keyR key := by unfold keyF; rw [← h.1]
    simp [this]
theorem place_in {r : Rel} {cs : List Int} {L : PlL} (hL : ∀ k, placeK k L = idsK (keyF r cs) k r.rows.length) {k : ByteArray} {j : Int} (h : j ∈ placeK k L) : ∃ n : Nat, j = n ∧ n < r.rows.length := by
  rw [hL] at h
  unfold idsK at h
  obtain ⟨n, h1, rfl⟩ := List.mem_map.1 h
  exact ⟨n, rfl, by simpa using (List.mem_filter.1 h1).1⟩
theorem hits_any (r : Rel) (cs : List Int) (key : List Val) : decide (0 < ((hits r cs key).length : Int)) = r.rows.any fun y => matchV key (valsF r.cols y cs) := by
  have e : (hits r cs key).length = (hitsN r cs key).length := by simp [hits]
  rw [e]
  cases h : r.rows.any fun y => matchV key (valsF r.cols y cs) with
  | true =>
    obtain ⟨y, hy, hm⟩ := List.any_eq_true.1 h
    obtain ⟨j, hj, rfl⟩ := List.getElem_of_mem hy
    have : j ∈ hitsN r cs key := List.mem_filter.2 ⟨by simpa using hj, by unfold hitB; rw [List.getD_eq_getElem?_getD, List.getElem?_eq_getElem hj]; exact hm⟩
    have := List.length_pos_of_mem this
    simp; omega
  | false =>
    have : hitsN r cs key = [] := by
      unfold hitsN
      rw [List.filter_eq_nil_iff]
      intro j hj
      rw [List.any_eq_false] at h
      have hj := List.mem_range.1 hj
      have := h _ (List.getElem_mem hj)
      unfold hitB
      rw [List.getD_eq_getElem?_getD, List.getElem?_eq_getElem hj]
      exact this
    rw [this]; simp
abbrev idxA (r : Rel) (cs : List Int) (m : Nat) : List AV := [.sl .no (ints' r.cols), .sl .no (rows' r.rows), .sl .no (ints' cs), .map m]
theorem S_match1 (H : List HO) (r : Rel) (cs : List Int) (key : List Val) (p q m : Nat) (j : Nat) (hr : OkR r) (hc : cs.length ≤ 40) (hk : key.length ≤ 1000) (hp : H[p]? = some (.box [rowA key])) (hq : H[q]? = some (.box (idxA r cs m))) (hj : j < r.rows.length) : TS Tryz.prog 98 [.int .i64 (j : Int), .ptr p 0, .ptr q 0] H (pt (.bool (hitI r cs key (j : Int))) H) := by
  have hrow := hr.row _ (List.getElem_mem hj)
  have k1 := T_svalues r r.rows[j] cs hr.nc hrow.1 (by omega)
  have k2 := T_smatch key (valsF r.cols r.rows[j] cs) (by omega)
  have hh : hitI r cs key (j : Int) = matchV key (valsF r.cols r.rows[j] cs) := by unfold hitI hitB; rw [Int.toNat_natCast, List.getD_eq_getElem?_getD, List.getElem?_eq_getElem hj]; rfl
  rw [hh]
  refine TS.body mix Tryz.func98 (by kernel_rfl) rfl (by kernel_rfl) (by simp) ?_
  simp [hp, hq, hj]
  refine TDK.callW k1 (Dws.self (by simp)) ?_
  simp [hp, hq, hj]
  refine TDK.callW k2 (Dws.self (by simp)) ?_
  simp
theorem S_matches (H : List HO) (r : Rel) (cs : List Int) (key : List Val) (m : Nat) (L : PlL) (hr : OkR r) (hc : cs.length ≤ 40) (hk : key.length ≤ 40) (hki : i64V key) (hks : ∀ v, v ∈ key → v.s.size ≤ 2000) (hm : H[m]? = some (.mp (plA L) (some 0)))
    (hL : ∀ k, placeK k L = idsK (keyF r cs) k r.rows.length) : TS Tryz.prog 58 [.agg (idxA r cs m), rowA key] H (pt (.sl .no (ints' (hits r cs key))) H) := by
  have hml := (List.getElem?_eq_some_iff.1 hm).1
  have k1 := T_rowKey key hk hki hks
  have hnr := hr.nr
  have hpl : (placeK (keyR key) L).length ≤ 1000000 := by have := idsK_len (keyF r cs) (keyR key) r.rows.length; rw [← hL] at this; omega
  have hm' : ∀ Y : List HO, (H ++ Y)[m]? = some (.mp (plA L) (some 0)) := fun Y => by rw [List.getElem?_append_left hml]; exact hm
  have k2 : ∀ own, TS Tryz.prog 97 [.sl own (ints' (placeK (keyR key) L)), .fn (.func 98) [] [.ptr (H.length + 1) 0, .ptr H.length 0]] (H ++ [.box (idxA r cs m), .box [rowA key]]) (pt (.sl .no (ints' (hits r cs key))) (H ++ [.box (idxA r cs m), .box [rowA key]])) := fun own => by
    have := S_keepI (H ++ [.box (idxA r cs m), .box [rowA key]]) own 98 [.ptr (H.length + 1) 0, .ptr H.length 0] (placeK (keyR key) L) (hitI r cs key) hpl fun x hx J => by
      obtain ⟨n, rfl, hn⟩ := place_in hL hx
      exact S_match1 _ r cs key (H.length + 1) H.length m n hr hc (by omega) (by rw [List.append_assoc, app_atn]; rfl) (by rw [List.append_assoc]; simp) hn
    rw [hits_of hL] at this
    exact this
  refine TS.dropF (H0 := H) ?_ (Nat.le_refl _) (fun h hm => .inl hm)
  refine TS.bodyM [100001, 2000106, 1010601, 1010602, 1010604] mix Tryz.func58 (by kernel_rfl) rfl (by kernel_rfl) (by simp) ?_
  simp
  refine TDK.callW k1 (Dws.self (by simp)) ?_
  cases hget : getL (keyR key) L with
  | none =>
    have hp : placeK (keyR key) L = [] := by unfold placeK; rw [hget]
    rw [hp] at k2
    simp [hm', keys_str, found_mpA, hget, -foundV]
    refine TWK.call (k2 _) ?_
    simp [hm', keys_str, found_mpA, hget, -foundV]
    exact Frz.slN (f := AV.int .i64)
  | some p =>
    obtain ⟨o, c⟩ := p
    have hp : placeK (keyR key) L = c := by unfold placeK; rw [hget]
    rw [hp] at k2
    simp [hm', keys_str, found_mpA, hget, oslA, -foundV]
    refine TWK.call (k2 _) ?_
    simp [hm', keys_str, found_mpA, hget, oslA, -foundV]
    exact Frz.slN (f := AV.int .i64)
theorem S_some1 (H : List HO) (a r : Rel) (cs : List Int) (x : List Val) (w : Bool) (p1 p2 p3 p4 m : Nat) (L : PlL) (ha : OkR a) (hx : x ∈ a.rows) (hr : OkR r) (hc : cs.length ≤ 40) (h1 : H[p1]? = some (.box (idxA r cs m))) (h2 : H[p2]? = some (.box a.cs)) (h3 : H[p3]? = some (.box [.sl .no (ints' cs)])) (h4 : H[p4]? = some (.box [.bool w])) (hm : H[m]? = some (.mp (plA L) (some 0)))
    (hL : ∀ k, placeK k L = idsK (keyF r cs) k r.rows.length) : TS Tryz.prog 86 [rowA x, .ptr p1 0, .ptr p2 0, .ptr p3 0, .ptr p4 0] H (pt (.bool ((r.rows.any fun y => matchV (valsF a.cols x cs) (valsF r.cols y cs)) == w)) H) := by
  have hrow := ha.row _ hx
  have k1 := T_svalues a x cs ha.nc hrow.1 (by omega)
  have hv := valsF_ok ha hx cs
  have k2 := S_matches H r cs (valsF a.cols x cs) m L hr hc (by simpa [valsF] using hc) hv.1 hv.2 hm hL
  rw [← hits_any]
  refine TS.bodyM [100001, 2000105, 1010500, 1010501, 1010503] mix Tryz.func86 (by kernel_rfl) rfl (by kernel_rfl) (by simp) ?_
  simp [h1, h2, h3, h4]
  refine TDK.callW k1 (Dws.self (by simp)) ?_
  simp [h1, h2, h3, h4]
  refine TWK.call k2 ?_
  simp [h1, h2, h3, h4]
abbrev bothR (a b : Rel) : List Int := sharedI a.cols b.cols
def meetB (a b : Rel) (x y : List Val) : Bool := matchV (valsF a.cols x (bothR a b)) (valsF b.cols y (bothR a b))
/-- those rows that have a match, or those that have none -/
def someR (a b : Rel) (w : Bool) : Rel := ⟨a.cols, a.rows.filter fun x => (b.rows.any fun y => meetB a b x y) == w⟩
theorem bothR_len (a b : Rel) : (bothR a b).length ≤ a.cols.length := Nat.le_trans (List.length_filter_le ..) (setI_len _)
theorem BM.out {H : List HO} {r : Rel} {cs : List Int} {L : PlL} {M H' : List HO} {c4 : List AV} (h : BM H r cs L M) (hH : H' = M.set (H.length + 1) (.box c4)) : ∃ J, H' = H ++ J ∧ H'[H.length + 2]? = some (.mp (plA L) (some 0)) := by
  obtain ⟨J, hJ⟩ := h.app
  refine ⟨J.set 1 (.box c4), ?_, ?_⟩
  · rw [hH, hJ, app_setn]
  · rw [hH, List.getElem?_set_ne (by omega)]; exact h.gm
set_option maxRecDepth 4000 in
theorem T_some (p q : Rel) (w : Bool) (hp : OkR p) (hq : OkR q) (hc : p.cols.length ≤ 40) : T Tryz.prog 51 [p.av, q.av, .bool w] (someR (heldR p) (heldR q) w).av := by
  have k1 := T_sheld p hp
  have k2 := T_sheld q hq
  have ha := heldR_ok hp
  have hb := heldR_ok hq
  have hac : (heldR p).cols.length ≤ 40 := by unfold heldR; split; exact hc; simp [zR]
  obtain ⟨a, haa⟩ : ∃ a, a = heldR p := ⟨_, rfl⟩
  obtain ⟨b, hbb⟩ : ∃ b, b = heldR q := ⟨_, rfl⟩
  rw [← haa] at k1 ha hac ⊢
  rw [← hbb] at k2 hb ⊢
  have hnc := ha.nc
  have hnb := hb.nc
  have hnr := ha.nr
  have k3 := T_shared a.cols b.cols (by omega) (by omega)
  have hbl := bothR_len a b
  have kb := S_build [.box a.cs, .box b.cs, .box [.bool w], .box [.sl .exact [], .sl .exact []], .box [.sl .no (ints' (bothR a b))]] b (bothR a b) hb (by omega)
  have k5 := T_scopied (someR a b w).rows (Nat.le_trans (List.length_filter_le ..) hnr) fun x hx => by have := (ha.row x (List.mem_filter.1 hx).1).1; omega
  refine T.introF (TS.body mix Tryz.func51 (by kernel_rfl) rfl (by kernel_rfl) (by simp) ?_)
  simp
  refine TDK.callW k1 (Dws.self (by simp)) ?_
  simp
  refine TDK.callW k2 (Dws.self (by simp)) ?_
  simp
  refine TS.callW k3 (Dws.self (by simp)) ?_
  simp
  refine kb.mono ?_
  rintro x H' ⟨L, rfl, ⟨M, hM, c4, hH⟩, hL⟩
  obtain ⟨J, rfl, hm⟩ := hM.out hH
  clear hM hH
  simp at hm
  simp
  have ks := S_keepR (.box a.cs :: .box b.cs :: .box [.bool w] :: .box [.sl .exact [], .sl .exact []] :: .box [.sl .no (ints' (bothR a b))] :: (J ++ [.box (idxA b (bothR a b) 7)])) .no 86 [.ptr (J.length + 1 + 1 + 1 + 1 + 1) 0, .ptr 0 0, .ptr 4 0, .ptr 2 0] a.rows (fun x => (b.rows.any fun y => meetB a b x y) == w) (by omega) fun x hx J2 =>
    S_some1 _ a b (bothR a b) x w _ _ _ _ 7 L ha hx hb (by omega) (by simp) (by simp) (by simp) (by simp) (by simp; rw [List.getElem?_append_left (List.getElem?_eq_some_iff.1 hm).1]; exact hm) hL
  refine TS.pt ks ?_
  simp
  refine TS.callW k5 (Dws.self (by simp)) ?_
  simp
  exact .agg (.cons (Frz.slN (f := AV.int .i64)) (.cons (Frz.slN (f := fun r => AV.sl .no (vals' r))) .nil))
theorem T_semijoin (p q : Rel) (hp : OkR p) (hq : OkR q) (hc : p.cols.length ≤ 40) : T Tryz.prog 15 [p.av, q.av] (someR (heldR p) (heldR q) true).av := by
  have k := T_some p q true hp hq hc
  obtain ⟨s, hs⟩ : ∃ s, s = someR (heldR p) (heldR q) true := ⟨_, rfl⟩
  rw [← hs] at k ⊢
  refine T.introF (TS.body mix Tryz.func15 (by kernel_rfl) rfl (by kernel_rfl) (by simp) ?_)
  simp
  refine TS.callW k (Dws.self (by simp)) ?_
  simp
  exact .agg (.cons (Frz.slN (f := AV.int .i64)) (.cons (Frz.slN (f := fun r => AV.sl .no (vals' r))) .nil))
end Go.Proofs.YtjplcdeaedflpaaGreatDoor.PL
namespace Go.Proofs.YtjplcdeaedflpaaGreatDoor.PL
open Go.Proofs
set_option linter.unusedVariables false
set_option linter.unusedSimpArgs false
/-- a list that grows, behind k things, from nothing on -/
def GrowX (k sz : Nat) (J : List HO) (x : AV) (xs : List AV) : Prop := (xs = [] ∧ (x = .sl .nil [] ∨ x = .sl .exact [])) ∨ ∃ t, x = .sl (.tok (t + k)) xs ∧ J[t]? = some (.spare xs.length sz)
theorem GrowX.own {k sz : Nat} {J : List HO} {x : AV} {xs : List AV} (h : GrowX k sz J x xs) : ∃ own, x = .sl own xs := by
  rcases h with ⟨rfl, h | h⟩ | ⟨t, h, _⟩ <;> exact ⟨_, h⟩
theorem GrowX.ex0 {x : AV} (h : x = .sl .nil [] ∨ x = .sl .exact []) : x.ex = .sl .exact [] := by rcases h with rfl | rfl <;> rfl
theorem GrowX.first {α : Type} {f : α → AV} {l : List α} {a : α} {q sz : Nat} {J : List HO} {k : Nat} (hl : l = []) (hk : k = J.length + q) : GrowX q sz (J ++ [.spare 1 sz]) (.sl (.tok k) [f a]) (avs f (l ++ [a])) := by
  subst hl; subst hk; exact .inr ⟨J.length, rfl, by simp⟩
theorem GrowX.more {α : Type} {f : α → AV} {l : List α} {a : α} {q sz t n : Nat} {J : List HO} (ht : J[t]? = some (.spare (avs f l).length sz)) (hn : n = l.length + 1) : GrowX q sz (J.set t (.spare n sz)) (.sl (.tok (t + q)) (avs f (l ++ [a]))) (avs f (l ++ [a])) :=
  .inr ⟨t, rfl, by rw [List.getElem?_set_self (List.getElem?_eq_some_iff.1 ht).1]; simp [hn]⟩
theorem GrowX.app {k sz : Nat} {J L : List HO} {x : AV} {xs : List AV} (h : GrowX k sz J x xs) : GrowX k sz (J ++ L) x xs := by
  rcases h with h | ⟨t, h, ht⟩
  · exact .inl h
  · exact .inr ⟨t, h, by rw [List.getElem?_append_left (List.getElem?_eq_some_iff.1 ht).1]; exact ht⟩
theorem T_rmeet (a b : Rel) (x y : List Val) (ha : OkR a) (hb : OkR b) (hx : x ∈ a.rows) (hy : y ∈ b.rows) : T Tryz.prog 53 [a.av, rowA x, b.av, rowA y] (.bool (meetB a b x y)) := by
  have hnc := ha.nc
  have hnb := hb.nc
  have hbl := bothR_len a b
  have hxr := ha.row x hx
  have hyr := hb.row y hy
  have k1 := T_rshared21 a.cols b.cols (by omega) (by omega)
  have k2 := T_rvalues24 a x (bothR a b) hnc hxr.1 (by omega)
  have k3 := T_rvalues24 b y (bothR a b) hnb hyr.1 (by omega)
  have k4 := T_rmatch24 (valsF a.cols x (bothR a b)) (valsF b.cols y (bothR a b)) (by simp [valsF]; omega) fun v hv => by have := (valsF_ok ha hx (bothR a b)).2 v hv; omega
  refine T.intro (TS.body mix Tryz.func53 (by kernel_rfl) rfl (by kernel_rfl) (by simp) ?_)
  simp
  refine TS.callW k1 (Dws.self (by simp)) ?_
  simp
  refine TDK.callW k2 (Dws.self (by simp)) ?_
  simp
  refine TDK.callW k3 (Dws.self (by simp)) ?_
  simp
  refine TDK.callW k4 (Dws.self (by simp)) ?_
  simp [meetB]
theorem T_sameLists04 (rs : List (List Val)) (hl : rs.length ≤ 1000000) (hr : ∀ r, r ∈ rs → r.length ≤ 1000000) : T Tryz.prog 50 [.sl .no (rows' rs), .sl .no (rows' rs)] (.bool true) := T_sameList04 rs (by omega) fun r h => by have := hr r h; omega
theorem T_rsame24 (r : Rel) (hc : r.cols.length ≤ 1000000) (hl : r.rows.length ≤ 1000000) (hr : ∀ l, l ∈ r.rows → l.length ≤ 1000000) : T Tryz.prog 14 [r.av, r.av] (.bool true) := by
  have k1 : T Tryz.prog 41 [.sl .no (ints' r.cols), .sl .no (ints' r.cols)] (.bool true) := by
    have := T_sameList21 r.cols r.cols (by omega) 
    simpa using this
  have k2 := T_sameLists04 r.rows hl hr
  refine T.intro (TS.body mix Tryz.func14 (by kernel_rfl) rfl (by kernel_rfl) (by simp) ?_)
  simp
  refine TS.callW k1 (Dws.self (by simp)) ?_
  simp
  refine GTK.callW (fun _ => ⟨k2, Dws.self (by simp)⟩) ?_
  simp
def muchR (r : Rel) : Bool := decide (20 < r.cols.length) || decide (30 < r.rows.length) || much r.rows
theorem T_rmuch24 (r : Rel) (hc : r.cols.length < 4611686018427387904) (hl : r.rows.length < 4611686018427387904) (hv : ∀ l, l ∈ r.rows → ∀ v, v ∈ l → v.s.size ≤ reachBytes) : T Tryz.prog 10 [r.av] (.bool (muchR r)) := by
  have k := T_much r.rows hl hv
  unfold muchR
  refine T.intro (TS.body mix Tryz.func10 (by kernel_rfl) rfl (by kernel_rfl) (by simp) ?_)
  simp
  by_cases h1 : 20 < r.cols.length
  · have h1' : (20 : Int) < r.cols.length := by omega
    simp [h1, h1']
    refine ⟨fun h1 h2 => ⟨h1, h2⟩, ?_⟩
    refine GTK.callW (fun h => nomatch h) (ys := []) (r := .bool true) ?_
    simp
  · have h1' : ¬ (20 : Int) < r.cols.length := by omega
    by_cases h2 : 30 < r.rows.length
    · have h2' : (30 : Int) < r.rows.length := by omega
      simp [h1, h1', h2, h2']
      refine ⟨fun h1 h2 => ⟨h1, h2⟩, ?_⟩
      refine GTK.callW (fun h => nomatch h) (ys := []) (r := .bool true) ?_
      simp
    · have h2' : ¬ (30 : Int) < r.rows.length := by omega
      simp [h1, h1', h2, h2']
      refine ⟨fun h1 h2 => ⟨h1, h2⟩, ?_⟩
      refine GTK.callW (fun _ => ⟨k, Dws.self (by simp)⟩) ?_
      simp
structure RelIn (r : Rel) : Prop where
  nc : r.cols.length < 4611686018427387904
  nr : r.rows.length < 4611686018427387904
  row : ∀ l, l ∈ r.rows → l.length < 4611686018427387904 ∧ ∀ v, v ∈ l → valIn v
theorem muchR_ok {r : Rel} (h : muchR r = false) (hi : RelIn r) : OkR r ∧ r.cols.length ≤ 20 ∧ r.rows.length ≤ 30 := by
  unfold muchR at h
  simp at h
  obtain ⟨⟨h1, h2⟩, h3⟩ := h
  obtain ⟨_, hm⟩ := much_no h3
  refine ⟨⟨by omega, by omega, fun l hl => ⟨by have := (hm l hl).1; omega, fun v hv => ⟨(hm l hl).2 v hv, ((hi.row l hl).2 v hv).2.1⟩⟩⟩, h1, h2⟩
theorem someR_ok {a b : Rel} {w : Bool} (h : OkR a) : OkR (someR a b w) := ⟨h.nc, Nat.le_trans (List.length_filter_le ..) h.nr, fun l hl => h.row l (List.mem_filter.1 hl).1⟩
end Go.Proofs.YtjplcdeaedflpaaGreatDoor.PL
