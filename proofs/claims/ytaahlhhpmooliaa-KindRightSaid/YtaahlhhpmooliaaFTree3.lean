/- Expressions: sums, lists of them, their levels. -/
import Derived.Test.YtaahlhhpmooliaaFTree2
import Derived.Test.YtaahlhhpmooliaaFGrow
namespace Go.Proofs.Ytaahlhhpmooliaa.PL
open Go.Proofs
set_option linter.unusedVariables false
set_option linter.unusedSimpArgs false
theorem findIdx_take {α : Type} {q : α → Bool} : ∀ {l : List α} {i : Nat} (h : i < l.length), (∀ x, x ∈ l.take i → q x = false) → q l[i] = true → l.any q = true
  | l, i, h, _, h2 => List.any_eq_true.2 ⟨l[i], List.getElem_mem h, h2⟩
theorem T_idxE (f : FuncId) (l : List Ex') (q : Ex' → Bool) (hl : l.length < 4611686018427387904) (hq : ∀ x, x ∈ l → T Try.prog f [x.av] (.bool (q x))) :
    ∃ n : Int, T Try.prog 154 [.sl .no (exprs l), .fn (.func f) [] []] (.int .i64 n) ∧ decide (0 ≤ n) = l.any q := by
  refine ⟨match l.findIdx? q with | some i => (i : Int) | none => -1, ?_, ?_⟩
  · refine T.intro (TS.body mix Try.func154 (by kernel_rfl) rfl (by kernel_rfl) (by simp) ?_)
    simp
    refine vc_loop (fun i : Nat => l.length - i) (fun i e H => e 0 = .sl .no (exprs l) ∧ e 1 = .fn (.func f) [] [] ∧ e 7 = .int .i64 l.length ∧ e 8 = .int .i64 i ∧ i ≤ l.length ∧ ∀ x, x ∈ l.take i → q x = false) 0 ?_ ?_
    · simp
    rintro i e H ⟨h0, h1, h7, h8, hi, ht⟩
    by_cases hlt : i < l.length
    · have hc := hq l[i] (List.getElem_mem hlt)
      simp only [Ex'.av_eq] at hc
      simp [h0, h1, h7, h8, hlt]
      refine TS.callW hc (Dws.self (by simp)) ?_
      simp
      refine condK_of (fun h => ?_) (fun h => ?_)
      · simp
        have : l.findIdx? q = some i := by
          rw [List.findIdx?_eq_some_iff_getElem]
          exact ⟨hlt, h, fun j hj => by simpa using ht l[j] (by rw [List.mem_take_iff_getElem]; exact ⟨j, by omega, rfl⟩)⟩
        rw [this]
      · simp [h0, h1, h7, h8, hlt]
        refine ⟨i + 1, by omega, wrap_next hlt (by omega), by omega, ?_⟩
        intro x hx
        rw [take_next hlt, List.mem_append] at hx
        rcases hx with hx | hx
        · exact ht x hx
        · simp at hx; subst hx; exact h
    · have hil : i = l.length := by omega
      subst hil
      simp [h0, h1, h7, h8]
      rw [List.take_length] at ht
      have : l.findIdx? q = none := by
        rw [List.findIdx?_eq_none_iff]
        intro x hx
        simpa using ht x hx
      rw [this]
  · cases h : l.findIdx? q with
    | none =>
      rw [List.findIdx?_eq_none_iff] at h
      have : l.any q = false := by rw [List.any_eq_false]; intro x hx; simpa using h x hx
      rw [this]; simp
    | some i =>
      obtain ⟨h1, h2, _⟩ := List.findIdx?_eq_some_iff_getElem.1 h
      rw [List.any_eq_true.2 ⟨_, List.getElem_mem h1, h2⟩]
      simp
theorem T_anyE (f : FuncId) (l : List Ex') (q : Ex' → Bool) (hl : l.length < 4611686018427387904) (hq : ∀ x, x ∈ l → T Try.prog f [x.av] (.bool (q x))) :
    T Try.prog 137 [.sl .no (exprs l), .fn (.func f) [] []] (.bool (l.any q)) := by
  obtain ⟨n, h1, h2⟩ := T_idxE f l q hl hq
  refine T.intro (TS.body mix Try.func137 (by kernel_rfl) rfl (by kernel_rfl) (by simp) ?_)
  simp
  refine TS.call' h1 (by simp) ?_
  simp
  exact h2
theorem sumsL_any : ∀ l : List Ex', Ex'.sumsL l = l.any Ex'.sums
  | [] => by simp [Ex'.sumsL]
  | e :: l => by simp only [Ex'.sumsL, List.any_cons, sumsL_any l]
def isSum (o : Int) : Bool := decide (17 ≤ o) && decide (o ≤ 21)
theorem T_sums (e : Ex') : OkE e → T Try.prog 131 [e.av] (.bool e.sums) := by
  induction e using Ex'.ind with
  | h a ih =>
  intro ha
  have hc := T_anyE 131 a.l Ex'.sums ha.len fun x hx => ih x hx (ha.sub hx)
  refine T.intro (TS.body mix Try.func131 (by kernel_rfl) rfl (by kernel_rfl) (by simp) ?_)
  rw [Ex'.sums_eq, sumsL_any]
  simp
  cases h1 : decide (17 ≤ a.op) with
  | false =>
    simp at h1
    simp
    refine GTK.callW (fun _ => ⟨hc, Dws.self (by simp)⟩) ?_
    simp
  | true =>
    simp
    cases h2 : decide (a.op ≤ 21) with
    | false =>
      simp
      refine GTK.callW (fun _ => ⟨hc, Dws.self (by simp)⟩) ?_
      simp
    | true =>
      simp
      refine GTK.callW (fun h => by cases h) (ys := []) (r := .bool true) ?_
      simp
def argsE (o : Int) : Int := if (12 ≤ o ∧ o ≤ 14) ∨ (18 ≤ o ∧ o ≤ 21) then 1 else if 1 ≤ o ∧ o ≤ 11 then 2 else 0
theorem T_args (o : Int) : T Try.prog 133 [.int .i64 o] (.int .i64 (argsE o)) := by
  refine T.intro (TS.body mix Try.func133 (by kernel_rfl) rfl (by kernel_rfl) (by simp) ?_)
  unfold argsE
  by_cases k1 : o = 12
  · simp [k1]
  by_cases k2 : o = 13
  · simp [k2]
  by_cases k3 : o = 14
  · simp [k3]
  by_cases k4 : o = 18
  · simp [k4]
  by_cases k5 : o = 19
  · simp [k5]
  by_cases k6 : o = 20
  · simp [k6]
  by_cases k7 : o = 21
  · simp [k7]
  rw [if_neg (by omega)]
  simp [k1, k2, k3, k4, k5, k6, k7]
  cases h1 : decide (1 ≤ o) with
  | false => simp at h1; simp; omega
  | true =>
    simp at h1
    simp
    refine condK_of (fun h => ?_) (fun h => ?_)
    · simp at h; simp; omega
    · simp at h; simp; omega
theorem T_rargs (o : Int) : T Try.prog 84 [.int .i64 o] (.int .i64 (argsE o)) := by
  refine T.intro (TS.body mix Try.func84 (by kernel_rfl) rfl (by kernel_rfl) (by simp) ?_)
  have key : (o ≤ 0) ∨ (1 ≤ o ∧ o ≤ 11) ∨ (12 ≤ o ∧ o ≤ 14) ∨ (15 ≤ o ∧ o ≤ 17) ∨ (18 ≤ o ∧ o ≤ 21) ∨ (22 ≤ o) := by omega
  rcases key with k | k | k | k | k | k
  · simp [argsE, show (1 ≤ o) = False from eq_false (by omega), show (o ≤ 11) = True from eq_true (by omega), show (12 ≤ o) = False from eq_false (by omega), show (o ≤ 14) = True from eq_true (by omega), show (18 ≤ o) = False from eq_false (by omega), show (o ≤ 21) = True from eq_true (by omega)]
  · simp [argsE, show (1 ≤ o) = True from eq_true (by omega), show (o ≤ 11) = True from eq_true (by omega), show (12 ≤ o) = False from eq_false (by omega), show (o ≤ 14) = True from eq_true (by omega), show (18 ≤ o) = False from eq_false (by omega), show (o ≤ 21) = True from eq_true (by omega)]
  · simp [argsE, show (1 ≤ o) = True from eq_true (by omega), show (o ≤ 11) = False from eq_false (by omega), show (12 ≤ o) = True from eq_true (by omega), show (o ≤ 14) = True from eq_true (by omega), show (18 ≤ o) = False from eq_false (by omega), show (o ≤ 21) = True from eq_true (by omega)]
  · simp [argsE, show (1 ≤ o) = True from eq_true (by omega), show (o ≤ 11) = False from eq_false (by omega), show (12 ≤ o) = True from eq_true (by omega), show (o ≤ 14) = False from eq_false (by omega), show (18 ≤ o) = False from eq_false (by omega), show (o ≤ 21) = True from eq_true (by omega)]
  · simp [argsE, show (1 ≤ o) = True from eq_true (by omega), show (o ≤ 11) = False from eq_false (by omega), show (12 ≤ o) = True from eq_true (by omega), show (o ≤ 14) = False from eq_false (by omega), show (18 ≤ o) = True from eq_true (by omega), show (o ≤ 21) = True from eq_true (by omega)]
  · simp [argsE, show (1 ≤ o) = True from eq_true (by omega), show (o ≤ 11) = False from eq_false (by omega), show (12 ≤ o) = True from eq_true (by omega), show (o ≤ 14) = False from eq_false (by omega), show (18 ≤ o) = True from eq_true (by omega), show (o ≤ 21) = False from eq_false (by omega)]
theorem T_sameAll (l m : List Ex') (hl : l.length < 4611686018427387904) (ho : ∀ x, x ∈ l → OkE x) : T Try.prog 75 [.sl .no (exprs l), .sl .no (exprs m)] (.bool (sameE l m)) := by
  refine T.intro (TS.body mix Try.func75 (by kernel_rfl) rfl (by kernel_rfl) (by simp) ?_)
  simp
  refine condK_of (fun h => ?_) (fun h => ?_)
  · simp at h
    simp
    exact sameE_not.2 (fun e => h (by rw [e]))
  simp at h
  have hlm : l.length = m.length := by omega
  simp
  refine vc_loop (fun i : Nat => l.length - i) (fun i e H => e 0 = .sl .no (exprs l) ∧ e 1 = .sl .no (exprs m) ∧ e 5 = .int .i64 i ∧ i ≤ l.length ∧ l.take i = m.take i) 0 ?_ ?_
  · simp
  rintro i e H ⟨h0, h1, h5, hi, ht⟩
  by_cases hlt : i < l.length
  · have hlt' : i < m.length := by omega
    have hc := T_rsame08 l[i] (ho _ (List.getElem_mem hlt)) m[i]
    simp only [Ex'.av_eq] at hc
    simp [h0, h1, h5, hlt, hlt']
    refine TDK.callW hc (Dws.self (by simp)) ?_
    simp [h0, h1, h5, hlt, hlt']
    refine condK_of (fun h3 => ?_) (fun h3 => ?_)
    · simp at h3
      simp
      exact sameE_not.2 (fun e => sameE_not.1 h3 (by simp only [e]))
    · simp at h3
      simp [h0, h1, h5, hlt, hlt']
      refine ⟨i + 1, by omega, wrap_next hlt (by omega), by omega, ?_⟩
      rw [take_next hlt, take_next hlt', ht, sameE_iff.1 h3]
  · have hil : i = l.length := by omega
    subst hil
    simp [h0, h1, h5]
    rw [List.take_length, hlm, List.take_length] at ht
    exact sameE_iff.2 ht
/-- a list grown from nil on, by lists that may be empty -/
def GrowE (k sz : Nat) (J : List HO) (x : AV) (xs : List AV) : Prop := (xs = [] ∧ (x = .sl .nil [] ∨ x = .sl .exact [])) ∨ ∃ t, x = .sl (.tok (t + k)) xs ∧ J[t]? = some (.spare xs.length sz)
theorem T_rcols08 (e : Ex') : OkE e → e.nodes ≤ 1000000 → T Try.prog 18 [e.av] (.sl .no (exprs e.cols)) := by
  induction e using Ex'.ind with
  | h a ih =>
  intro ha hn
  have hal := ha.len
  rw [Ex'.nodes_eq] at hn
  refine T.introF (TS.body mix Try.func18 (by kernel_rfl) rfl (by kernel_rfl) (by simp) ?_)
  simp
  rw [Ex'.cols_eq]
  refine condK_of (fun h => ?_) (fun h => ?_)
  · simp at h
    rw [if_pos h]
    simp
    have := Frz.slN (f := Ex'.av) (l := [a]) (own := .exact) (H := [.box a.cs])
    simp only [avs_cons, avs_nil, Ex'.av_eq, slA] at this
    exact this
  · simp at h
    rw [if_neg h]
    simp
    refine vc_loop (fun i : Nat => a.l.length - i) (fun i e H => ∃ x J, e 1 = .ptr 0 0 ∧ e 3 = x ∧ e 4 = .int .i64 i ∧ i ≤ a.l.length ∧ GrowE 1 9 J x (exprs (Ex'.colsL (a.l.take i))) ∧ H = .box a.cs :: J) 0 ?_ ?_
    · refine ⟨.sl .nil [], [], ?_⟩
      simp [Ex'.colsL, GrowE]
    rintro i e H ⟨x, J, h1, h3, h4, hi, hg, rfl⟩
    by_cases hlt : i < a.l.length
    · have hx := List.getElem_mem hlt
      have hnx := Ex'.nodesL_take hlt
      have hnt := Ex'.nodesL_le (l := a.l) (i + 1)
      have hcl := Ex'.colsL_len (a.l.take i)
      have hcl2 := (a.l[i]).cols_len
      have hns := Ex'.colsL_take hlt
      have hcc := ih a.l[i] hx (ha.sub hx) (by omega)
      simp only [Ex'.av_eq] at hcc
      have fin : ∀ {L : List Ex'}, L = Ex'.colsL (a.l.take i) → ∀ {C : List Ex'}, C = (a.l[i]).cols → exprs (Ex'.colsL (a.l.take (i + 1))) = exprs (L ++ C) := fun e1 C e2 => by rw [hns, e1, e2]
      obtain ⟨L, hL⟩ : ∃ L, L = Ex'.colsL (a.l.take i) := ⟨_, rfl⟩
      obtain ⟨C, hC⟩ : ∃ C, C = (a.l[i]).cols := ⟨_, rfl⟩
      have fin := fin hL hC
      rw [← hL] at hg hcl
      rw [← hC] at hcc hcl2
      rcases hg with ⟨ge, hg⟩ | ⟨t, rfl, ht⟩
      · rw [avs_eq_nil] at ge
        subst ge
        have e3 : x.ex = .sl .exact [] := by rcases hg with rfl | rfl <;> rfl
        simp [h1, h4, hlt]
        refine TS.callW hcc (Dws.self (by simp)) ?_
        simp [h1, h3, h4, hlt, e3]
        refine ⟨⟨by omega, by omega⟩, i + 1, by omega, wrap_next hlt (by omega), by omega, ?_⟩
        rw [fin]
        by_cases hC0 : C = []
        · subst hC0
          exact .inl ⟨by simp, .inr (by simp)⟩
        · have : 0 < C.length := List.length_pos_iff.2 hC0
          simp [this]
          exact .inr ⟨J.length, rfl, by simp⟩
      · simp [h1, h3, h4, hlt]
        refine TS.callW hcc (Dws.self (by simp)) ?_
        simp [h1, h3, h4, hlt, ht]
        refine ⟨⟨by omega, by omega⟩, i + 1, by omega, wrap_next hlt (by omega), by omega, ?_⟩
        rw [fin]
        exact .inr ⟨t, rfl, by rw [List.getElem?_set_self (List.getElem?_eq_some_iff.1 ht).1]; simp⟩
    · have hil : i = a.l.length := by omega
      subst hil
      simp [h1, h3, h4]
      rw [List.take_length] at hg
      rcases hg with ⟨ge, hg⟩ | ⟨t, rfl, ht⟩
      · rw [avs_eq_nil] at ge
        rw [ge]
        rcases hg with rfl | rfl <;> exact Frz.slN (f := Ex'.av) (l := [])
      · exact Frz.slN
def lvA (p : Ex' × Nat) : AV := .int .i64 p.2
abbrev lvs (L : List (Ex' × Nat)) : List AV := avs lvA L
instance : Sized lvA 1 := ⟨fun _ => rfl⟩
instance : Plain lvA := ⟨fun _ => rfl⟩
instance : Selfs lvA := ⟨fun a x h => by simp [lvA] at h; subst h; simp⟩
def exA (p : Ex' × Nat) : AV := p.1.av
abbrev exs (L : List (Ex' × Nat)) : List AV := avs exA L
instance : Sized exA 9 := ⟨fun p => by rw [exA, Ex'.av_eq]; rfl⟩
instance : Plain exA := ⟨fun p => p.1.pl_av⟩
instance : Selfs exA := ⟨fun a x h => Selfs.self (f := Ex'.av) a.1 x h⟩

def mxL : List (Ex' × Nat) → Nat
  | [] => 0
  | p :: L => max p.2 (mxL L)
theorem mxL_append : ∀ A B : List (Ex' × Nat), mxL (A ++ B) = max (mxL A) (mxL B)
  | [], B => by simp [mxL]
  | p :: A, B => by simp only [List.cons_append, mxL, mxL_append A B]; omega
theorem mx_flat (e : Ex') : ∀ d : Nat, mxL (e.flat d) + 1 = d + e.depth := by
  induction e using Ex'.ind with
  | h e ih =>
    intro d
    rw [Ex'.flat_eq, Ex'.depth_eq]
    have key : ∀ l : List Ex', (∀ x, x ∈ l → ∀ d, mxL (x.flat d) + 1 = d + x.depth) → max d (mxL (Ex'.flatL l (d + 1))) = d + Ex'.depthL l := by
      intro l
      induction l with
      | nil => intro _; simp [Ex'.flatL, Ex'.depthL, mxL]
      | cons y l ihl =>
        intro h
        have h1 := h y (List.mem_cons_self ..) (d + 1)
        have h2 := ihl fun x hx => h x (List.mem_cons_of_mem _ hx)
        simp only [Ex'.flatL, Ex'.depthL, mxL_append]
        omega
    have := key e.l ih
    simp only [mxL]
    omega
theorem sums_flat (e : Ex') : ∀ d : Nat, (e.flat d).any (fun p => isSum p.1.op) = e.sums := by
  induction e using Ex'.ind with
  | h e ih =>
    intro d
    rw [Ex'.flat_eq, Ex'.sums_eq, List.any_cons]
    have key : ∀ l : List Ex', (∀ x, x ∈ l → ∀ d : Nat, (x.flat d).any (fun p => isSum p.1.op) = x.sums) → (Ex'.flatL l (d + 1)).any (fun p => isSum p.1.op) = Ex'.sumsL l := by
      intro l
      induction l with
      | nil => intro _; simp [Ex'.flatL, Ex'.sumsL]
      | cons y l ihl =>
        intro h
        simp only [Ex'.flatL, Ex'.sumsL, List.any_append]
        rw [h y (List.mem_cons_self ..), ihl fun x hx => h x (List.mem_cons_of_mem _ hx)]
    rw [key e.l ih]
    rfl
theorem ok_cols (e : Ex') : OkE e → ∀ x, x ∈ e.cols → OkE x := by
  induction e using Ex'.ind with
  | h e ih =>
    intro he x hx
    rw [Ex'.cols_eq] at hx
    split at hx
    · simp at hx; subst hx; exact he
    · have key : ∀ l : List Ex', (∀ y, y ∈ l → OkE y → ∀ x, x ∈ y.cols → OkE x) → (∀ y, y ∈ l → OkE y) → ∀ x, x ∈ Ex'.colsL l → OkE x := by
        intro l
        induction l with
        | nil => intro _ _ x hx; simp [Ex'.colsL] at hx
        | cons y l ihl =>
          intro h h2 x hx
          simp only [Ex'.colsL, List.mem_append] at hx
          rcases hx with hx | hx
          · exact h y (List.mem_cons_self ..) (h2 y (List.mem_cons_self ..)) x hx
          · exact ihl (fun z hz => h z (List.mem_cons_of_mem _ hz)) (fun z hz => h2 z (List.mem_cons_of_mem _ hz)) x hx
      exact key e.l ih (fun y hy => he.sub hy) x hx


end Go.Proofs.Ytaahlhhpmooliaa.PL
