/- Conditions, by where they are asked: the reference's parts. -/
import Derived.Test.YtcjfjoilgnlemaaFTree4
import Derived.Test.YtcjfjoilgnlemaaFGraph3
import Derived.Test.YtcjfjoilgnlemaaFGyo
namespace Go.Proofs.Ytcjfjoilgnlemaa.PL
open Go.Proofs
set_option linter.unusedVariables false
set_option linter.unusedSimpArgs false
namespace Ex'
mutual
def parts : Ex' → List Ex'
  | mk op tab name t c v l => if op = 0 then [] else if op = 10 ∧ l.length = 2 then partsL l else [mk op tab name t c v l]
def partsL : List Ex' → List Ex'
  | [] => []
  | x :: l => parts x ++ partsL l
end
theorem parts_eq (e : Ex') : e.parts = if e.op = 0 then [] else if e.op = 10 ∧ e.l.length = 2 then partsL e.l else [e] := by cases e; rw [parts]; rfl
theorem partsL_append : ∀ a b : List Ex', partsL (a ++ b) = partsL a ++ partsL b
  | [], b => rfl
  | x :: a, b => by simp only [List.cons_append, partsL, partsL_append a b, List.append_assoc]
theorem partsL_take {l : List Ex'} {i : Nat} (h : i < l.length) : partsL (l.take (i + 1)) = partsL (l.take i) ++ l[i].parts := by
  rw [take_next h, partsL_append]; simp [partsL]
theorem parts_len (e : Ex') : e.parts.length ≤ e.nodes := by
  induction e using Ex'.ind with
  | h a ih =>
  rw [parts_eq, nodes_eq]
  split
  · simp
  split
  · have : ∀ l : List Ex', (∀ x, x ∈ l → x.parts.length ≤ x.nodes) → (partsL l).length ≤ nodesL l := by
      intro l
      induction l with
      | nil => intro _; simp [partsL, nodesL]
      | cons y l ih2 =>
        intro h
        have h1 := h y (by simp)
        have h2 := ih2 fun x hx => h x (by simp [hx])
        simp only [partsL, nodesL, List.length_append]
        omega
    have := this a.l ih
    omega
  · simp
theorem partsL_len (l : List Ex') : (partsL l).length ≤ nodesL l := by
  induction l with
  | nil => simp [partsL, nodesL]
  | cons y l ih =>
    have h1 := y.parts_len
    simp only [partsL, nodesL, List.length_append]
    omega
theorem parts_ok (e : Ex') : OkE e → ∀ x, x ∈ e.parts → OkE x ∧ x.nodes ≤ e.nodes := by
  induction e using Ex'.ind with
  | h a ih =>
  intro ha x hx
  rw [parts_eq] at hx
  split at hx
  · cases hx
  split at hx
  · have : ∀ l : List Ex', (∀ y, y ∈ l → y ∈ a.l) → x ∈ partsL l → OkE x ∧ x.nodes ≤ nodesL l := by
      intro l
      induction l with
      | nil => intro _ h; cases h
      | cons y l ih2 =>
        intro hl h
        rw [partsL, List.mem_append] at h
        rw [nodesL]
        rcases h with h | h
        · have := ih y (hl y (by simp)) (ha.sub (hl y (by simp))) x h
          exact ⟨this.1, by omega⟩
        · have := ih2 (fun z hz => hl z (by simp [hz])) h
          exact ⟨this.1, by omega⟩
    have := this a.l (fun y h => h) hx
    have hn := nodes_eq a
    exact ⟨this.1, by omega⟩
  · simp at hx
    subst hx
    exact ⟨ha, Nat.le_refl _⟩
end Ex'
theorem T_rparts (e : Ex') : OkE e → e.nodes ≤ 1000000 → T Try.prog 40 [e.av] (.sl .no (exprs e.parts)) := by
  induction e using Ex'.ind with
  | h a ih =>
  intro ha hn
  have hal := ha.len
  rw [Ex'.nodes_eq] at hn
  refine T.introF (TS.body mix Try.func40 (by kernel_rfl) rfl (by kernel_rfl) (by simp) ?_)
  rw [Ex'.parts_eq]
  by_cases h0 : a.op = 0
  · rw [if_pos h0]
    simp [h0]
    exact Frz.slN (f := Ex'.av) (l := [])
  rw [if_neg h0]
  by_cases h1 : a.op = 10 ∧ a.l.length = 2
  case neg =>
    rw [if_neg h1]
    have hfz := Frz.slN (f := Ex'.av) (l := [a]) (own := .exact) (H := [.box a.cs])
    simp only [avs_cons, avs_nil, Ex'.av_eq, slA] at hfz
    by_cases h2 : a.op = 10
    · have h3 : ¬ (a.l.length : Int) = 2 := fun h => h1 ⟨h2, by omega⟩
      simp [h0, h2, h3]
      simp only [Ex'.cs, h2] at hfz ⊢
      exact hfz
    · simp [h0, h2]
      exact hfz
  rw [if_pos h1]
  obtain ⟨h2, h3⟩ := h1
  have h3' : (a.l.length : Int) = 2 := by omega
  simp [h2, h3']
  refine vc_loop (fun i : Nat => 2 - i) (fun i e H => ∃ J, e 1 = .ptr 0 0 ∧ e 4 = .int .i64 i ∧ i ≤ 2 ∧ GrowE 1 9 J (e 3) (exprs (Ex'.partsL (a.l.take i))) ∧ H = .box a.cs :: J) 0 ?_ ?_
  · refine ⟨[], ?_⟩
    simp [Ex'.partsL, GrowE, h2]
  rintro i e H ⟨J, e1, e4, hi, hg, rfl⟩
  by_cases hlt : i < 2
  · have hil : i < a.l.length := by omega
    have hx := List.getElem_mem hil
    have hnx := Ex'.nodesL_take hil
    have hnt := Ex'.nodesL_le (l := a.l) (i + 1)
    have hcl := Ex'.partsL_len (a.l.take i)
    have hcl2 := (a.l[i]).parts_len
    have hns := Ex'.partsL_take hil
    have hcc := ih a.l[i] hx (ha.sub hx) (by omega)
    have hi2 : (i : Int) < 2 := by omega
    have ew := wrap_next hlt (by omega)
    simp only [Ex'.av_eq] at hcc
    have fin : ∀ {L : List Ex'}, L = Ex'.partsL (a.l.take i) → ∀ {C : List Ex'}, C = (a.l[i]).parts → exprs (Ex'.partsL (a.l.take (i + 1))) = exprs (L ++ C) := fun e1 C e2 => by rw [hns, e1, e2]
    obtain ⟨L, hL⟩ : ∃ L, L = Ex'.partsL (a.l.take i) := ⟨_, rfl⟩
    obtain ⟨C, hC⟩ : ∃ C, C = (a.l[i]).parts := ⟨_, rfl⟩
    have fin := fin hL hC
    rw [← hL] at hg hcl hns
    rw [← hC] at hcc hcl2 hns
    rcases hg with ⟨ge, hg⟩ | ⟨t, hg, ht⟩
    · rw [avs_eq_nil] at ge
      subst ge
      have e3 : (e 3).ex = .sl .exact [] := by rcases hg with h | h <;> rw [h] <;> rfl
      simp [e1, e4, hi2, hil]
      refine TS.callW hcc (Dws.self (by simp)) ?_
      simp [e1, e4, e3, hi2, hil]
      refine ⟨⟨by omega, by omega⟩, i + 1, by omega, ew, by omega, ?_⟩
      rw [fin]
      by_cases hC0 : C = []
      · subst hC0
        exact .inl ⟨by simp, .inr (by simp)⟩
      · have : 0 < C.length := List.length_pos_iff.2 hC0
        simp [this]
        exact .inr ⟨J.length, rfl, by simp⟩
    · simp [e1, e4, hi2, hil]
      refine TS.callW hcc (Dws.self (by simp)) ?_
      simp [e1, e4, hg, ht, hi2, hil]
      refine ⟨⟨by omega, by omega⟩, i + 1, by omega, ew, by omega, ?_⟩
      rw [fin]
      exact .inr ⟨t, rfl, by rw [List.getElem?_set_self (List.getElem?_eq_some_iff.1 ht).1]; simp⟩
  · have hil : i = 2 := by omega
    subst hil
    rw [List.take_of_length_le (by omega)] at hg
    simp [e1, e4]
    rcases hg with ⟨ge, hg⟩ | ⟨t, hg, ht⟩
    · rw [avs_eq_nil] at ge
      rw [ge]
      rcases hg with h | h <;> rw [h] <;> exact Frz.slN (f := Ex'.av) (l := [])
    · rw [hg]; exact Frz.slN
end Go.Proofs.Ytcjfjoilgnlemaa.PL
