/- Expressions: sums, lists of them, their levels. -/
import Derived.Test.YtcjfjoilgnlemaaFTree2
import Derived.Test.YtcjfjoilgnlemaaFGrow
namespace Go.Proofs.Ytcjfjoilgnlemaa.PL
open Go.Proofs
set_option linter.unusedVariables false
set_option linter.unusedSimpArgs false
theorem findIdx_take {α : Type} {q : α → Bool} : ∀ {l : List α} {i : Nat} (h : i < l.length), (∀ x, x ∈ l.take i → q x = false) → q l[i] = true → l.any q = true
  | l, i, h, _, h2 => List.any_eq_true.2 ⟨l[i], List.getElem_mem h, h2⟩


theorem sumsL_any : ∀ l : List Ex', Ex'.sumsL l = l.any Ex'.sums
  | [] => by simp [Ex'.sumsL]
  | e :: l => by simp only [Ex'.sumsL, List.any_cons, sumsL_any l]
def isSum (o : Int) : Bool := decide (17 ≤ o) && decide (o ≤ 21)

def argsE (o : Int) : Int := if (12 ≤ o ∧ o ≤ 14) ∨ (18 ≤ o ∧ o ≤ 21) then 1 else if 1 ≤ o ∧ o ≤ 11 then 2 else 0

theorem T_sameAll (l m : List Ex') (hl : l.length < 4611686018427387904) (ho : ∀ x, x ∈ l → OkE x) : T Try.prog 38 [.sl .no (exprs l), .sl .no (exprs m)] (.bool (sameE l m)) := by
  refine T.intro (TS.body mix Try.func38 (by kernel_rfl) rfl (by kernel_rfl) (by simp) ?_)
  simp
  refine condK_of (fun h => ?_) (fun h => ?_)
  · simp at h
    simp
    exact sameE_not.2 (fun e => h (by rw [e]))
  simp at h
  have hlm : l.length = m.length := by omega
  simp
  refine vc_loop (fun i : Nat => l.length - i) (fun i e H => e 0 = .sl .no (exprs l) ∧ e 1 = .sl .no (exprs m) ∧ e 5 = .int .i64 i ∧ i ≤ l.length ∧ l.take i = m.take i) 0 ?_ ?_
  · simp
  rintro i e H ⟨h0, h1, h5, hi, ht⟩
  by_cases hlt : i < l.length
  · have hlt' : i < m.length := by omega
    have hc := T_rsame08 l[i] (ho _ (List.getElem_mem hlt)) m[i]
    simp only [Ex'.av_eq] at hc
    simp [h0, h1, h5, hlt, hlt']
    refine TDK.callW hc (Dws.self (by simp)) ?_
    simp [h0, h1, h5, hlt, hlt']
    refine condK_of (fun h3 => ?_) (fun h3 => ?_)
    · simp at h3
      simp
      exact sameE_not.2 (fun e => sameE_not.1 h3 (by simp only [e]))
    · simp at h3
      simp [h0, h1, h5, hlt, hlt']
      refine ⟨i + 1, by omega, wrap_next hlt (by omega), by omega, ?_⟩
      rw [take_next hlt, take_next hlt', ht, sameE_iff.1 h3]
  · have hil : i = l.length := by omega
    subst hil
    simp [h0, h1, h5]
    rw [List.take_length, hlm, List.take_length] at ht
    exact sameE_iff.2 ht
/-- a list grown from nil on, by lists that may be empty -/
def GrowE (k sz : Nat) (J : List HO) (x : AV) (xs : List AV) : Prop := (xs = [] ∧ (x = .sl .nil [] ∨ x = .sl .exact [])) ∨ ∃ t, x = .sl (.tok (t + k)) xs ∧ J[t]? = some (.spare xs.length sz)
theorem T_rcols08 (e : Ex') : OkE e → e.nodes ≤ 1000000 → T Try.prog 76 [e.av] (.sl .no (exprs e.cols)) := by
  induction e using Ex'.ind with
  | h a ih =>
  intro ha hn
  have hal := ha.len
  rw [Ex'.nodes_eq] at hn
  refine T.introF (TS.body mix Try.func76 (by kernel_rfl) rfl (by kernel_rfl) (by simp) ?_)
  simp
  rw [Ex'.cols_eq]
  refine condK_of (fun h => ?_) (fun h => ?_)
  · simp at h
    rw [if_pos h]
    simp
    have := Frz.slN (f := Ex'.av) (l := [a]) (own := .exact) (H := [.box a.cs])
    simp only [avs_cons, avs_nil, Ex'.av_eq, slA] at this
    exact this
  · simp at h
    rw [if_neg h]
    simp
    refine vc_loop (fun i : Nat => a.l.length - i) (fun i e H => ∃ x J, e 1 = .ptr 0 0 ∧ e 3 = x ∧ e 4 = .int .i64 i ∧ i ≤ a.l.length ∧ GrowE 1 9 J x (exprs (Ex'.colsL (a.l.take i))) ∧ H = .box a.cs :: J) 0 ?_ ?_
    · refine ⟨.sl .nil [], [], ?_⟩
      simp [Ex'.colsL, GrowE]
    rintro i e H ⟨x, J, h1, h3, h4, hi, hg, rfl⟩
    by_cases hlt : i < a.l.length
    · have hx := List.getElem_mem hlt
      have hnx := Ex'.nodesL_take hlt
      have hnt := Ex'.nodesL_le (l := a.l) (i + 1)
      have hcl := Ex'.colsL_len (a.l.take i)
      have hcl2 := (a.l[i]).cols_len
      have hns := Ex'.colsL_take hlt
      have hcc := ih a.l[i] hx (ha.sub hx) (by omega)
      simp only [Ex'.av_eq] at hcc
      have fin : ∀ {L : List Ex'}, L = Ex'.colsL (a.l.take i) → ∀ {C : List Ex'}, C = (a.l[i]).cols → exprs (Ex'.colsL (a.l.take (i + 1))) = exprs (L ++ C) := fun e1 C e2 => by rw [hns, e1, e2]
      obtain ⟨L, hL⟩ : ∃ L, L = Ex'.colsL (a.l.take i) := ⟨_, rfl⟩
      obtain ⟨C, hC⟩ : ∃ C, C = (a.l[i]).cols := ⟨_, rfl⟩
      have fin := fin hL hC
      rw [← hL] at hg hcl
      rw [← hC] at hcc hcl2
      rcases hg with ⟨ge, hg⟩ | ⟨t, rfl, ht⟩
      · rw [avs_eq_nil] at ge
        subst ge
        have e3 : x.ex = .sl .exact [] := by rcases hg with rfl | rfl <;> rfl
        simp [h1, h4, hlt]
        refine TS.callW hcc (Dws.self (by simp)) ?_
        simp [h1, h3, h4, hlt, e3]
        refine ⟨⟨by omega, by omega⟩, i + 1, by omega, wrap_next hlt (by omega), by omega, ?_⟩
        rw [fin]
        by_cases hC0 : C = []
        · subst hC0
          exact .inl ⟨by simp, .inr (by simp)⟩
        · have : 0 < C.length := List.length_pos_iff.2 hC0
          simp [this]
          exact .inr ⟨J.length, rfl, by simp⟩
      · simp [h1, h3, h4, hlt]
        refine TS.callW hcc (Dws.self (by simp)) ?_
        simp [h1, h3, h4, hlt, ht]
        refine ⟨⟨by omega, by omega⟩, i + 1, by omega, wrap_next hlt (by omega), by omega, ?_⟩
        rw [fin]
        exact .inr ⟨t, rfl, by rw [List.getElem?_set_self (List.getElem?_eq_some_iff.1 ht).1]; simp⟩
    · have hil : i = a.l.length := by omega
      subst hil
      simp [h1, h3, h4]
      rw [List.take_length] at hg
      rcases hg with ⟨ge, hg⟩ | ⟨t, rfl, ht⟩
      · rw [avs_eq_nil] at ge
        rw [ge]
        rcases hg with rfl | rfl <;> exact Frz.slN (f := Ex'.av) (l := [])
      · exact Frz.slN
def lvA (p : Ex' × Nat) : AV := .int .i64 p.2
abbrev lvs (L : List (Ex' × Nat)) : List AV := avs lvA L
instance : Sized lvA 1 := ⟨fun _ => rfl⟩
instance : Plain lvA := ⟨fun _ => rfl⟩
instance : Selfs lvA := ⟨fun a x h => by simp [lvA] at h; subst h; simp⟩
def exA (p : Ex' × Nat) : AV := p.1.av
abbrev exs (L : List (Ex' × Nat)) : List AV := avs exA L
instance : Sized exA 9 := ⟨fun p => by rw [exA, Ex'.av_eq]; rfl⟩
instance : Plain exA := ⟨fun p => p.1.pl_av⟩
instance : Selfs exA := ⟨fun a x h => Selfs.self (f := Ex'.av) a.1 x h⟩

def mxL : List (Ex' × Nat) → Nat
  | [] => 0
  | p :: L => max p.2 (mxL L)
theorem mxL_append : ∀ A B : List (Ex' × Nat), mxL (A ++ B) = max (mxL A) (mxL B)
  | [], B => by simp [mxL]
  | p :: A, B => by simp only [List.cons_append, mxL, mxL_append A B]; omega
theorem mx_flat (e : Ex') : ∀ d : Nat, mxL (e.flat d) + 1 = d + e.depth := by
  induction e using Ex'.ind with
  | h e ih =>
    intro d
    rw [Ex'.flat_eq, Ex'.depth_eq]
    have key : ∀ l : List Ex', (∀ x, x ∈ l → ∀ d, mxL (x.flat d) + 1 = d + x.depth) → max d (mxL (Ex'.flatL l (d + 1))) = d + Ex'.depthL l := by
      intro l
      induction l with
      | nil => intro _; simp [Ex'.flatL, Ex'.depthL, mxL]
      | cons y l ihl =>
        intro h
        have h1 := h y (List.mem_cons_self ..) (d + 1)
        have h2 := ihl fun x hx => h x (List.mem_cons_of_mem _ hx)
        simp only [Ex'.flatL, Ex'.depthL, mxL_append]
        omega
    have := key e.l ih
    simp only [mxL]
    omega
theorem sums_flat (e : Ex') : ∀ d : Nat, (e.flat d).any (fun p => isSum p.1.op) = e.sums := by
  induction e using Ex'.ind with
  | h e ih =>
    intro d
    rw [Ex'.flat_eq, Ex'.sums_eq, List.any_cons]
    have key : ∀ l : List Ex', (∀ x, x ∈ l → ∀ d : Nat, (x.flat d).any (fun p => isSum p.1.op) = x.sums) → (Ex'.flatL l (d + 1)).any (fun p => isSum p.1.op) = Ex'.sumsL l := by
      intro l
      induction l with
      | nil => intro _; simp [Ex'.flatL, Ex'.sumsL]
      | cons y l ihl =>
        intro h
        simp only [Ex'.flatL, Ex'.sumsL, List.any_append]
        rw [h y (List.mem_cons_self ..), ihl fun x hx => h x (List.mem_cons_of_mem _ hx)]
    rw [key e.l ih]
    rfl
theorem ok_cols (e : Ex') : OkE e → ∀ x, x ∈ e.cols → OkE x := by
  induction e using Ex'.ind with
  | h e ih =>
    intro he x hx
    rw [Ex'.cols_eq] at hx
    split at hx
    · simp at hx; subst hx; exact he
    · have key : ∀ l : List Ex', (∀ y, y ∈ l → OkE y → ∀ x, x ∈ y.cols → OkE x) → (∀ y, y ∈ l → OkE y) → ∀ x, x ∈ Ex'.colsL l → OkE x := by
        intro l
        induction l with
        | nil => intro _ _ x hx; simp [Ex'.colsL] at hx
        | cons y l ihl =>
          intro h h2 x hx
          simp only [Ex'.colsL, List.mem_append] at hx
          rcases hx with hx | hx
          · exact h y (List.mem_cons_self ..) (h2 y (List.mem_cons_self ..)) x hx
          · exact ihl (fun z hz => h z (List.mem_cons_of_mem _ hz)) (fun z hz => h2 z (List.mem_cons_of_mem _ hz)) x hx
      exact key e.l ih (fun y hy => he.sub hy) x hx


end Go.Proofs.Ytcjfjoilgnlemaa.PL
