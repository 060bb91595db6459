/- Trees by their parents: the reference's ways; another root. -/
import Derived.Test.YtahpoodcmeoabaaFJt4
import Derived.Test.YtahpoodcmeoabaaFGyo9
namespace Go.Proofs.Ytahpoodcmeoabaa.PL
open Go.Proofs
set_option linter.unusedVariables false
set_option linter.unusedSimpArgs false
def pathR (x y : List Int) : List Int := if x = [] ∨ y = [] then [] else x.filter (fun v => !decide (v ∈ y)) ++ ((x.find? fun v => decide (v ∈ y)).toList ++ y.reverse.filter (fun v => !decide (v ∈ x)))
theorem Gy.Up.split {f : Nat → Option Nat} {i : Nat} {U : List Nat} (h : Gy.Up f i U) : ∀ {c : Nat}, c ∈ U → ∃ P R, U = P ++ c :: R ∧ Gy.Up f c (c :: R) := by
  induction h with
  | root h =>
    intro c hc
    simp at hc
    subst hc
    exact ⟨[], [], rfl, .root h⟩
  | @step i p U h t ih =>
    intro c hc
    rcases List.mem_cons.1 hc with rfl | hc
    · exact ⟨[], U, rfl, .step h t⟩
    · obtain ⟨P, R, h1, h2⟩ := ih hc
      exact ⟨i :: P, R, by rw [h1]; rfl, h2⟩
theorem Gy.Up.nodup {f : Nat → Option Nat} {i : Nat} {U : List Nat} (h : Gy.Up f i U) : U.Nodup := by
  induction h with
  | root h => simp
  | @step i p U h t ih =>
    rw [List.nodup_cons]
    refine ⟨fun hi => ?_, ih⟩
    obtain ⟨W, w1, w2, w3⟩ := t.sub hi
    have := w1.uniq (.step h t)
    subst this
    simp at w3
    omega
/-- the root of a tree stands on each way -/
theorem tree_root {ps : List Int} (h : treeI ps = true) (hn : 0 < ps.length) : ∃ r, r < ps.length ∧ ∀ i, i < ps.length → (r : Int) ∈ upI ps i := by
  have ht := tree_ok h
  have hc : ps.count (-1) = 1 := by
    unfold treeI at h
    rw [Bool.and_eq_true, Bool.or_eq_true, decide_eq_true_iff, decide_eq_true_iff] at h
    rcases h.2 with h | h
    · omega
    · exact h
  obtain ⟨r, hr, hr2⟩ := one_count hc
  refine ⟨r, hr, fun i hi => ?_⟩
  obtain ⟨U, u1, u2, u3⟩ := ht i hi
  rw [u3, mem_nI]
  have : ∀ {j : Nat} {J : List Nat}, Gy.Up (fOf ps) j J → (∀ x, x ∈ J → x < ps.length) → r ∈ J := by
    intro j J hJ
    induction hJ with
    | @root q hf =>
      intro hx
      have hq := hx q (by simp)
      unfold fOf at hf
      split at hf
      · rename_i e
        rw [List.getD_eq_getElem?_getD, List.getElem?_eq_getElem hq] at e
        have := (hr2 q hq).1 (by simpa using e)
        simp [this]
      · cases hf
    | step hf t ih => intro hx; exact List.mem_cons_of_mem _ (ih fun x h => hx x (List.mem_cons_of_mem _ h))
  exact this u1 u2
theorem find_split {p : Int → Bool} : ∀ {l : List Int}, (∃ x, x ∈ l ∧ p x = true) → ∃ A c R, l = A ++ c :: R ∧ p c = true ∧ (∀ a, a ∈ A → p a = false) ∧ l.findIdx? p = some A.length ∧ l.find? p = some c
  | [], h => by obtain ⟨x, hx, _⟩ := h; cases hx
  | a :: l, h => by
    cases hp : p a with
    | true => exact ⟨[], a, l, rfl, hp, by simp, by rw [List.findIdx?_cons, hp]; rfl, by rw [List.find?_cons, hp]⟩
    | false =>
      obtain ⟨x, hx, hpx⟩ := h
      rcases List.mem_cons.1 hx with rfl | hx
      · rw [hp] at hpx; cases hpx
      · obtain ⟨A, c, R, h1, h2, h3, h4, h5⟩ := find_split ⟨x, hx, hpx⟩
        refine ⟨a :: A, c, R, by rw [h1]; rfl, h2, fun b hb => ?_, ?_, ?_⟩
        · rcases List.mem_cons.1 hb with rfl | hb
          · exact hp
          · exact h3 b hb
        · rw [List.findIdx?_cons, hp, h4]; simp
        · rw [List.find?_cons, hp]; exact h5
/-- both tell the same way -/
theorem path_same {ps : List Int} (a b : Int) : pathQ (upI (heldI ps) a) (upI (heldI ps) b) = pathR (upI (heldI ps) a) (upI (heldI ps) b) := by
  unfold pathR
  by_cases h0 : upI (heldI ps) a = [] ∨ upI (heldI ps) b = []
  · rw [if_pos h0]
    unfold pathQ
    have : (upI (heldI ps) a).findIdx? (fun v => decide (v ∈ upI (heldI ps) b)) = none := by
      rw [List.findIdx?_eq_none_iff]
      intro v hv
      rcases h0 with h0 | h0
      · rw [h0] at hv; cases hv
      · rw [h0]; simp
    rw [this]
  · rw [if_neg h0]
    have ha0 : upI (heldI ps) a ≠ [] := fun h => h0 (.inl h)
    have hb0 : upI (heldI ps) b ≠ [] := fun h => h0 (.inr h)
    have inr : ∀ c : Int, upI (heldI ps) c ≠ [] → 0 ≤ c ∧ c < (heldI ps).length := by
      intro c hc
      refine Classical.byContradiction fun hn => hc ?_
      unfold upI
      cases (heldI ps).length with
      | zero => rfl
      | succ m => rw [upF, if_neg hn]
    obtain ⟨a1, a2⟩ := inr a ha0
    obtain ⟨b1, b2⟩ := inr b hb0
    obtain ⟨i, rfl⟩ : ∃ i : Nat, a = i := ⟨a.toNat, by omega⟩
    obtain ⟨j, rfl⟩ : ∃ j : Nat, b = j := ⟨b.toNat, by omega⟩
    have hi : i < (heldI ps).length := by omega
    have hj : j < (heldI ps).length := by omega
    have htr : treeI (heldI ps) = true := by
      unfold heldI at hi ⊢
      split at hi
      · rename_i h; rw [if_pos h]; exact h
      · simp at hi
    have ht := tree_ok htr
    obtain ⟨r, hr, hroot⟩ := tree_root htr (by omega)
    obtain ⟨U, u1, u2, u3⟩ := ht i hi
    obtain ⟨W, w1, w2, w3⟩ := ht j hj
    have hrU := hroot i hi
    have hrW := hroot j hj
    obtain ⟨A, c, R, h1, h2, h3, h4, h5⟩ := find_split (p := fun v => decide (v ∈ upI (heldI ps) j)) (l := upI (heldI ps) i) ⟨r, hrU, by simpa using hrW⟩
    have hcW : c ∈ upI (heldI ps) j := by simpa using h2
    have hcU : c ∈ upI (heldI ps) i := by rw [h1]; simp
    rw [w3] at hcW
    obtain ⟨k, hk, rfl⟩ := List.mem_map.1 hcW
    have hkU : k ∈ U := by rw [u3] at hcU; exact mem_nI.1 hcU
    obtain ⟨P1, R1, p1, p2⟩ := u1.split hkU
    obtain ⟨P2, R2, q1, q2⟩ := w1.split hk
    have e12 := p2.uniq q2
    simp only [List.cons.injEq, true_and] at e12
    subst e12
    have nU := u1.nodup
    have nW := w1.nodup
    have hx : upI (heldI ps) i = nI P1 ++ (k : Int) :: nI R1 := by rw [u3, p1]; simp [nI]
    have hy : upI (heldI ps) j = nI P2 ++ (k : Int) :: nI R1 := by rw [w3, q1]; simp [nI]
    have ndx : (nI P1 ++ (k : Int) :: nI R1).Nodup := by
      rw [← hx, u3]
      exact List.Pairwise.map _ (fun a b h => by omega) nU
    have ndy : (nI P2 ++ (k : Int) :: nI R1).Nodup := by
      rw [← hy, w3]
      exact List.Pairwise.map _ (fun a b h => by omega) nW
    rw [hx] at h1 h4 h5 ⊢
    rw [hy] at h3 h4 h5 ⊢
    have hA : A = nI P1 := by
      have hnk : (k : Int) ∉ nI P1 := fun h => by
        rw [List.nodup_append] at ndx
        exact ndx.2.2 _ h _ (List.mem_cons_self ..) rfl
      have hnA : (k : Int) ∉ A := fun h => by
        have := h3 _ h
        simp at this
      exact (List.append_inj_left' (s₁ := A) (s₂ := nI P1) (t₁ := (k : Int) :: R) (t₂ := (k : Int) :: nI R1) h1.symm (by
        have : ∀ (l m : List Int) (x : Int) (s t : List Int), l ++ x :: s = m ++ x :: t → x ∉ l → x ∉ m → s.length = t.length := by
          intro l
          induction l with
          | nil =>
            intro m x s t he _ hm
            cases m with
            | nil => simp at he; rw [he]
            | cons y m => simp at he; exact absurd he.1 (fun e => hm (by rw [e]; simp))
          | cons z l ih =>
            intro m x s t he hl hm
            cases m with
            | nil => simp at he; exact absurd he.1 (fun e => hl (by rw [← e]; simp))
            | cons y m =>
              simp at he hl hm
              exact ih m x s t he.2 hl.2 hm.2
        simpa using this A (nI P1) k R (nI R1) h1.symm hnA hnk))
    subst hA
    unfold pathQ
    rw [h4, h5]
    dsimp only
    have g1 : (nI P1 ++ (k : Int) :: nI R1).getD (nI P1).length 0 = (k : Int) := by simp
    have g2 : (nI P2 ++ (k : Int) :: nI R1).findIdx (fun v => decide (v = (k : Int))) = (nI P2).length := by
      rw [List.findIdx_append]
      have : ∀ l : List Int, (k : Int) ∉ l → l.findIdx (fun v => decide (v = (k : Int))) = l.length := by
        intro l hl
        rw [List.findIdx_eq_length]
        intro x hx
        have : x ≠ (k : Int) := fun e => hl (e ▸ hx)
        simpa using this
      have hn2 : (k : Int) ∉ nI P2 := fun h => by
        rw [List.nodup_append] at ndy
        exact ndy.2.2 _ h _ (List.mem_cons_self ..) rfl
      rw [this _ hn2, List.findIdx_cons]
      simp
    rw [g1, g2]
    have f1 : (nI P1 ++ (k : Int) :: nI R1).filter (fun v => !decide (v ∈ nI P2 ++ (k : Int) :: nI R1)) = nI P1 := by
      rw [List.filter_append]
      have k1 : (nI P1).filter (fun v => !decide (v ∈ nI P2 ++ (k : Int) :: nI R1)) = nI P1 := by
        rw [List.filter_eq_self]
        intro x hx
        have := h3 x hx
        rw [this]; rfl
      have k2 : ((k : Int) :: nI R1).filter (fun v => !decide (v ∈ nI P2 ++ (k : Int) :: nI R1)) = [] := by
        rw [List.filter_eq_nil_iff]
        intro x hx
        have : x ∈ nI P2 ++ (k : Int) :: nI R1 := List.mem_append_right _ hx
        simp only [this, decide_true, Bool.not_true]
        exact Bool.false_ne_true
      rw [k1, k2, List.append_nil]
    have f2 : (nI P2 ++ (k : Int) :: nI R1).reverse.filter (fun v => !decide (v ∈ nI P1 ++ (k : Int) :: nI R1)) = (nI P2).reverse := by
      rw [List.reverse_append, List.filter_append]
      have k1 : ((k : Int) :: nI R1).reverse.filter (fun v => !decide (v ∈ nI P1 ++ (k : Int) :: nI R1)) = [] := by
        rw [List.filter_eq_nil_iff]
        intro x hx
        have : x ∈ nI P1 ++ (k : Int) :: nI R1 := List.mem_append_right _ (List.mem_reverse.1 hx)
        simp only [this, decide_true, Bool.not_true]
        exact Bool.false_ne_true
      have k2 : (nI P2).reverse.filter (fun v => !decide (v ∈ nI P1 ++ (k : Int) :: nI R1)) = (nI P2).reverse := by
        rw [List.filter_eq_self]
        intro x hx
        have hx2 := List.mem_reverse.1 hx
        have : ¬ x ∈ nI P1 ++ (k : Int) :: nI R1 := by
          intro hm
          rw [List.mem_append] at hm
          rcases hm with hm | hm
          · have := h3 x hm
            simp only [decide_eq_false_iff_not] at this
            exact this (List.mem_append_left _ hx2)
          · rw [List.nodup_append] at ndy
            exact ndy.2.2 _ hx2 _ hm rfl
        simp only [this, decide_false, Bool.not_false]
      rw [k1, k2, List.nil_append]
    rw [f1, f2]
    have t1 : (nI P1 ++ (k : Int) :: nI R1).take ((nI P1).length + 1) = nI P1 ++ [(k : Int)] := by rw [List.take_append, List.take_of_length_le (by omega)]; simp
    have t2 : (nI P2 ++ (k : Int) :: nI R1).take (nI P2).length = nI P2 := by rw [List.take_append, List.take_of_length_le (by omega)]; simp
    rw [t1, t2]
    simp
end Go.Proofs.Ytahpoodcmeoabaa.PL
