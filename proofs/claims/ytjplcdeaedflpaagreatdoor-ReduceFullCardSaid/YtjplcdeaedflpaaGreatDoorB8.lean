/- Contracts of functions of the program, and plain laws (part 8): Trees by their parents, in plain words: the same nodes are beside one another whatever the root  what is connected is on each way; Relations, in plain words: a join tree's program leaves what takes part; Relations in the order of a tree  all together along it; Any node may be the root; A tree's order, and what hangs along it; Relations along a tree: the statements of the same rows, and of sizes; The rows that take part, by the reference  what no program takes. -/
import Derived.Test.YtjplcdeaedflpaaGreatDoorB1
import Derived.Test.YtjplcdeaedflpaaGreatDoorB2
import Derived.Test.YtjplcdeaedflpaaGreatDoorB7
namespace Go.Proofs.YtjplcdeaedflpaaGreatDoor.PL
open Go.Proofs
set_option linter.unusedVariables false
set_option linter.unusedSimpArgs false
/-- a walk within some nodes -/
inductive Wk (N : Nat → Nat → Prop) (X : Nat → Prop) : Nat → Nat → Prop
  | refl {a : Nat} (h : X a) : Wk N X a a
  | step {a b c : Nat} (h : X a) (e : N a b) (t : Wk N X b c) : Wk N X a c
theorem Wk.head {N : Nat → Nat → Prop} {X : Nat → Prop} {a b : Nat} (h : Wk N X a b) : X a := by cases h <;> assumption
theorem Wk.last {N : Nat → Nat → Prop} {X : Nat → Prop} {a b : Nat} (h : Wk N X a b) : X b := by
  induction h with
  | refl h => exact h
  | step h e t ih => exact ih
theorem Wk.trans {N : Nat → Nat → Prop} {X : Nat → Prop} {a b c : Nat} (h : Wk N X a b) (k : Wk N X b c) : Wk N X a c := by
  induction h with
  | refl h => exact k
  | step h e t ih => exact .step h e (ih k)
theorem Wk.symm {N : Nat → Nat → Prop} (hs : ∀ a b, N a b → N b a) {X : Nat → Prop} {a b : Nat} (h : Wk N X a b) : Wk N X b a := by
  induction h with
  | refl h => exact .refl h
  | step h e t ih => exact ih.trans (.step t.head (hs _ _ e) (.refl h))
theorem Wk.congr {N M : Nat → Nat → Prop} (hs : ∀ a b, N a b → M a b) {X : Nat → Prop} {a b : Nat} (h : Wk N X a b) : Wk M X a b := by
  induction h with
  | refl h => exact .refl h
  | step h e t ih => exact .step h (hs _ _ e) ih
/-- beside one another -/
def nbr (f : Nat → Option Nat) (a b : Nat) : Prop := f a = some b ∨ f b = some a
theorem nbr_symm {f : Nat → Option Nat} (a b : Nat) (h : nbr f a b) : nbr f b a := h.symm
/-- who leaves what hangs below a node passes it, and its parent -/
theorem Wk.exit {f : Nat → Option Nat} {X : Nat → Prop} {c : Nat} {a b : Nat} (h : Wk (nbr f) X a b) : ∀ {A B : List Nat}, Gy.Up f a A → Gy.Up f b B → c ∈ A → c ∉ B → X c ∧ ∃ p, f c = some p ∧ X p := by
  induction h with
  | refl h =>
    intro A B hA hB h1 h2
    rw [hA.uniq hB] at h1
    exact absurd h1 h2
  | @step a d b h e t ih =>
    intro A B hA hB h1 h2
    rcases e with e | e
    · cases hA with
      | root hf => rw [hf] at e; cases e
      | @step _ p U hf hU =>
        rw [hf] at e
        cases e
        rcases List.mem_cons.1 h1 with rfl | h1
        · by_cases hd : c ∈ U
          · exact ih hU hB hd h2
          · exact ⟨h, d, hf, t.head⟩
        · exact ih hU hB h1 h2
    · exact ih (.step e hA) hB (List.mem_cons_of_mem _ h1) h2
theorem Wk.climb {f : Nat → Option Nat} {X : Nat → Prop} : ∀ {P : List Nat} {a m : Nat} {R : List Nat}, Gy.Up f a (P ++ m :: R) → (∀ x, x ∈ P → X x) → X m → Wk (nbr f) X a m
  | [], a, m, R, h, hP, hm => by
    obtain ⟨U, e⟩ := h.head
    simp at e
    rw [← e.1]
    exact .refl hm
  | c :: P, a, m, R, h, hP, hm => by
    obtain ⟨U, e⟩ := h.head
    have e1 : c = a := by simp at e; exact e.1
    subst e1
    generalize hl : c :: P ++ m :: R = L at h
    cases h with
    | root hf => simp at hl
    | @step _ p U hf hU =>
      simp at hl
      subst hl
      exact .step (hP _ (by simp)) (.inl hf) (Wk.climb hU (fun x hx => hP x (by simp [hx])) hm)
/-- two ways up, to where they meet -/
structure TwoW (f : Nat → Option Nat) (a b : Nat) (P1 P2 : List Nat) (m : Nat) (R : List Nat) : Prop where
  u1 : Gy.Up f a (P1 ++ m :: R)
  u2 : Gy.Up f b (P2 ++ m :: R)
  d : ∀ x, x ∈ P1 → x ∉ P2 ++ m :: R
/-- all on the way have what both ends have, just if what has it hangs together -/
theorem TwoW.conn {f : Nat → Option Nat} {X : Nat → Prop} {a b m : Nat} {P1 P2 R : List Nat} (h : TwoW f a b P1 P2 m R) : (∀ k, k ∈ P1 ++ (m :: P2.reverse) → X k) ↔ Wk (nbr f) X a b := by
  constructor
  · intro hX
    exact (Wk.climb h.u1 (fun x hx => hX x (by simp [hx])) (hX m (by simp))).trans ((Wk.climb h.u2 (fun x hx => hX x (by simp [hx])) (hX m (by simp))).symm nbr_symm)
  · intro hw k hk
    have n1 := h.u1.nodup
    have n2 := h.u2.nodup
    rw [List.mem_append, List.mem_cons, List.mem_reverse] at hk
    rcases hk with hk | rfl | hk
    · exact (hw.exit h.u1 h.u2 (List.mem_append_left _ hk) (h.d k hk)).1
    · rcases List.eq_nil_or_concat P1 with e | ⟨P, c, e⟩
      · subst e
        obtain ⟨U, e⟩ := h.u1.head
        simp at e
        rw [e.1]
        exact hw.head
      · subst e
        have hc : c ∈ P.concat c := by simp
        obtain ⟨p, hp, hpx⟩ := (hw.exit h.u1 h.u2 (List.mem_append_left _ hc) (h.d c hc)).2
        have : ∀ {Q : List Nat} {x : Nat}, Gy.Up f x (Q ++ c :: k :: R) → f c = some k := by
          intro Q
          induction Q with
          | nil =>
            intro x hx
            cases hx with
            | step hf hU =>
              obtain ⟨U, e⟩ := hU.head
              simp at e
              rw [e.1]; exact hf
          | cons q Q ih =>
            intro x hx
            generalize hl : q :: Q ++ c :: k :: R = L at hx
            cases hx with
            | root hf => simp at hl
            | step hf hU => simp at hl; obtain ⟨_, rfl⟩ := hl; exact ih hU
        have h3 : f c = some k := this (Q := P) (x := a) (by have := h.u1; simpa using this)
        rw [h3] at hp
        cases hp
        exact hpx
    · have h1 : k ∉ P1 ++ m :: R := by
        intro hm
        rw [List.mem_append] at hm
        rcases hm with hm | hm
        · exact h.d k hm (List.mem_append_left _ hk)
        · rw [List.nodup_append] at n2
          exact n2.2.2 _ hk _ hm rfl
      exact ((hw.symm nbr_symm).exit h.u2 h.u1 (List.mem_append_left _ hk) h1).1
theorem path_two {q : List Int} (htr : treeI q = true) {i j : Nat} (hi : i < q.length) (hj : j < q.length) : ∃ P1 P2 m R, TwoW (fOf q) i j P1 P2 m R ∧ pathQ (upI q i) (upI q j) = nI (P1 ++ m :: P2.reverse) ∧ ∀ x, x ∈ P1 ++ m :: P2.reverse → x < q.length := by
  have ht := tree_ok htr
  obtain ⟨r, hr, hroot⟩ := tree_root htr (by omega)
  obtain ⟨U, u1, u2, u3⟩ := ht i hi
  obtain ⟨W, w1, w2, w3⟩ := ht j hj
  have hrU := hroot i hi
  have hrW := hroot j hj
  obtain ⟨A, c, R, h1, h2, h3, h4, h5⟩ := find_split (p := fun v => decide (v ∈ upI (q) j)) (l := upI (q) i) ⟨r, hrU, by simpa using hrW⟩
  have hcW : c ∈ upI (q) j := by simpa using h2
  have hcU : c ∈ upI (q) i := by rw [h1]; simp
  rw [w3] at hcW
  obtain ⟨k, hk, rfl⟩ := List.mem_map.1 hcW
  have hkU : k ∈ U := by rw [u3] at hcU; exact mem_nI.1 hcU
  obtain ⟨P1, R1, p1, p2⟩ := u1.split hkU
  obtain ⟨P2, R2, q1, q2⟩ := w1.split hk
  have e12 := p2.uniq q2
  simp only [List.cons.injEq, true_and] at e12
  subst e12
  have nU := u1.nodup
  have nW := w1.nodup
  have hx : upI (q) i = nI P1 ++ (k : Int) :: nI R1 := by rw [u3, p1]; simp [nI]
  have hy : upI (q) j = nI P2 ++ (k : Int) :: nI R1 := by rw [w3, q1]; simp [nI]
  have ndx : (nI P1 ++ (k : Int) :: nI R1).Nodup := by
    rw [← hx, u3]
    exact List.Pairwise.map _ (fun a b h => by omega) nU
  have ndy : (nI P2 ++ (k : Int) :: nI R1).Nodup := by
    rw [← hy, w3]
    exact List.Pairwise.map _ (fun a b h => by omega) nW
  rw [hx] at h1 h4 h5 ⊢
  rw [hy] at h3 h4 h5 ⊢
  have hA : A = nI P1 := by
    have hnk : (k : Int) ∉ nI P1 := fun h => by
      rw [List.nodup_append] at ndx
      exact ndx.2.2 _ h _ (List.mem_cons_self ..) rfl
    have hnA : (k : Int) ∉ A := fun h => by
      have := h3 _ h
      simp at this
    exact (List.append_inj_left' (s₁ := A) (s₂ := nI P1) (t₁ := (k : Int) :: R) (t₂ := (k : Int) :: nI R1) h1.symm (by
      have : ∀ (l m : List Int) (x : Int) (s t : List Int), l ++ x :: s = m ++ x :: t → x ∉ l → x ∉ m → s.length = t.length := by
        intro l
        induction l with
        | nil =>
          intro m x s t he _ hm
          cases m with
          | nil => simp at he; rw [he]
          | cons y m => simp at he; exact absurd he.1 (fun e => hm (by rw [e]; simp))
        | cons z l ih =>
          intro m x s t he hl hm
          cases m with
          | nil => simp at he; exact absurd he.1 (fun e => hl (by rw [← e]; simp))
          | cons y m =>
            simp at he hl hm
            exact ih m x s t he.2 hl.2 hm.2
      simpa using this A (nI P1) k R (nI R1) h1.symm hnA hnk))
  subst hA
  unfold pathQ
  rw [h4]
  dsimp only
  have g1 : (nI P1 ++ (k : Int) :: nI R1).getD (nI P1).length 0 = (k : Int) := by simp
  have g2 : (nI P2 ++ (k : Int) :: nI R1).findIdx (fun v => decide (v = (k : Int))) = (nI P2).length := by
    rw [List.findIdx_append]
    have : ∀ l : List Int, (k : Int) ∉ l → l.findIdx (fun v => decide (v = (k : Int))) = l.length := by
      intro l hl
      rw [List.findIdx_eq_length]
      intro x hx
      have : x ≠ (k : Int) := fun e => hl (e ▸ hx)
      simpa using this
    have hn2 : (k : Int) ∉ nI P2 := fun h => by
      rw [List.nodup_append] at ndy
      exact ndy.2.2 _ h _ (List.mem_cons_self ..) rfl
    rw [this _ hn2, List.findIdx_cons]
    simp
  rw [g1, g2]
  have t1 : (nI P1 ++ (k : Int) :: nI R1).take ((nI P1).length + 1) = nI P1 ++ [(k : Int)] := by rw [List.take_append, List.take_of_length_le (by omega)]; simp
  have t2 : (nI P2 ++ (k : Int) :: nI R1).take (nI P2).length = nI P2 := by rw [List.take_append, List.take_of_length_le (by omega)]; simp
  rw [t1, t2]
  refine ⟨P1, P2, k, R1, ⟨p1 ▸ u1, q1 ▸ w1, fun x hx hm => ?_⟩, by simp [nI], fun x hx => ?_⟩
  · have := h3 (x : Int) (mem_nI.2 hx)
    simp only [decide_eq_false_iff_not] at this
    apply this
    rw [List.mem_append, List.mem_cons] at hm ⊢
    rcases hm with hm | hm | hm
    · exact .inl (mem_nI.2 hm)
    · exact .inr (.inl (by rw [hm]))
    · exact .inr (.inr (mem_nI.2 hm))
  · rw [List.mem_append, List.mem_cons, List.mem_reverse] at hx
    rcases hx with hx | rfl | hx
    · exact u2 x (by rw [p1]; simp [hx])
    · exact u2 x (by rw [p1]; simp)
    · exact w2 x (by rw [q1]; simp [hx])
/-! ### another root -/
theorem rerF_not {q l : List Int} {x : Nat} : ∀ {i : Nat}, i ≤ l.length → (∀ y, y ∈ l → 0 ≤ y) → (x : Int) ∉ l → (rerF q l i)[x]? = q[x]?
  | 0, _, _, _ => rfl
  | i + 1, hi, hg, hx => by
    have hil : i < l.length := by omega
    have e : l.getD i 0 = l[i] := by simp [hil]
    rw [rerF, e, List.getElem?_set_ne, rerF_not (by omega) hg hx]
    intro h
    have := hg _ (List.getElem_mem hil)
    exact hx (by rw [show (x : Int) = l[i] by omega]; exact List.getElem_mem hil)
theorem rerF_at {q l : List Int} (hnd : l.Nodup) (hg : ∀ y, y ∈ l → 0 ≤ y ∧ y < q.length) : ∀ {i j : Nat}, i ≤ l.length → (hj : j < i) → (hjl : j < l.length) → (rerF q l i)[(l[j]).toNat]? = some (if j = 0 then -1 else l.getD (j - 1) 0)
  | 0, j, _, hj, _ => by omega
  | i + 1, j, hi, hj, hjl => by
    have hil : i < l.length := by omega
    have e : l.getD i 0 = l[i] := by simp [hil]
    rw [rerF, e]
    by_cases c : j = i
    · subst c
      rw [List.getElem?_set_self]
      rw [rerF_len]
      have := hg _ (List.getElem_mem hil)
      omega
    · rw [List.getElem?_set_ne, rerF_at hnd hg (by omega) (by omega) hjl]
      intro h
      have h1 := hg _ (List.getElem_mem hil)
      have h2 := hg _ (List.getElem_mem hjl)
      have h3 : l[i] = l[j] := by omega
      exact c ((List.getElem_inj hnd).1 h3).symm
/-- a list of parents is a tree if each way ends, and one of them is a root -/
theorem tree_of {ps : List Int} {r : Nat} (hr : r < ps.length) (hr2 : ∀ i (hi : i < ps.length), ps[i] = -1 ↔ i = r) (hge : ∀ x, x < ps.length → -1 ≤ ps.getD x (-1)) (hup : ∀ i, i < ps.length → ∃ U, Gy.Up (fOf ps) i U ∧ ∀ x, x ∈ U → x < ps.length) : treeI ps = true := by
  have htree : TreeOk ps := by
    intro i hi
    obtain ⟨U, h1, h4⟩ := hup i hi
    exact ⟨U, h1, h4, up_upF h1 h4 (fun x hx => hge x (h4 x hx)) ps.length (nat_nodup_le h1.nodup h4)⟩
  have last : ∀ {i : Nat} {U : List Nat}, Gy.Up (fOf ps) i U → (∀ x, x ∈ U → x < ps.length) → ∃ q, U.getLast? = some q ∧ ps[q]? = some (-1) := by
    intro i U hU
    induction hU with
    | @root q hq =>
      intro hx
      refine ⟨q, rfl, ?_⟩
      have hql : q < ps.length := hx q (by simp)
      unfold fOf at hq
      split at hq
      · rename_i e
        rw [List.getD_eq_getElem?_getD] at e
        rw [List.getElem?_eq_getElem hql] at e ⊢
        simpa using e
      · cases hq
    | @step i p U hp ht ih =>
      intro hx
      obtain ⟨q, h1, h2⟩ := ih fun x h => hx x (List.mem_cons_of_mem _ h)
      exact ⟨q, by rw [List.getLast?_cons_of_ne_nil (by rintro rfl; cases h1)]; exact h1, h2⟩
  unfold treeI
  rw [all_range, Bool.true_and, Bool.or_eq_true, decide_eq_true_iff, decide_eq_true_iff]
  · exact .inr (count_one hr hr2)
  · intro j hj
    obtain ⟨U, h1, h2, h3⟩ := htree j hj
    obtain ⟨q, q1, q2⟩ := last h1 h2
    unfold endOk
    rw [h3]
    have : (nI U).getLast? = some (q : Int) := by unfold nI; rw [List.getLast?_map, q1]; rfl
    rw [this]
    simp [q2]
structure Rer (ps q : List Int) (r : Nat) : Prop where
  len : q.length = ps.length
  tree : treeI q = true
  root : ∀ i (hi : i < q.length), q[i] = -1 ↔ i = r
  same : ∀ a b, a < ps.length → b < ps.length → (nbr (fOf q) a b ↔ nbr (fOf ps) a b)
theorem fOf_some {q : List Int} {i p : Nat} (h : q[i]? = some (p : Int)) : fOf q i = some p := by
  unfold fOf
  rw [List.getD_eq_getElem?_getD, h]
  have : ¬ (p : Int) = -1 := by omega
  simp [this]
theorem fOf_none {q : List Int} {i : Nat} (h : q[i]? = some (-1)) : fOf q i = none := by
  unfold fOf
  rw [List.getD_eq_getElem?_getD, h]
  rfl
theorem fOf_congr {q ps : List Int} {i : Nat} (h : q[i]? = ps[i]?) : fOf q i = fOf ps i := by
  unfold fOf
  rw [List.getD_eq_getElem?_getD, List.getD_eq_getElem?_getD, h]
theorem rer_ok {ps : List Int} {r : Nat} (htr : treeI ps = true) (hr : r < ps.length) : Rer ps (rerootI ps r) r := by
  have ht := tree_ok htr
  obtain ⟨U, u1, u2, u3⟩ := ht r hr
  obtain ⟨o, ho, hroot⟩ := tree_root htr (by omega)
  have hoU : o ∈ U := by have := hroot r hr; rw [u3] at this; exact mem_nI.1 this
  have nU := u1.nodup
  have nI_nd : (nI U).Nodup := List.Pairwise.map _ (fun a b h => by omega) nU
  have hg : ∀ y, y ∈ nI U → 0 ≤ y ∧ y < ps.length := fun y hy => by
    obtain ⟨k, hk, rfl⟩ := List.mem_map.1 hy
    have := u2 k hk
    omega
  have hq : rerootI ps r = rerF ps (nI U) (nI U).length := by unfold rerootI; rw [u3]
  have hlen : (rerootI ps r).length = ps.length := by rw [hq, rerF_len]
  have hUl : (nI U).length = U.length := by simp [nI]
  have hnot : ∀ x : Nat, x ∉ U → (rerootI ps r)[x]? = ps[x]? := fun x hx => by
    rw [hq]
    exact rerF_not (Nat.le_refl _) (fun y hy => (hg y hy).1) fun h => hx (mem_nI.1 h)
  have hat : ∀ j (hj : j < U.length), (rerootI ps r)[U[j]]? = some (if j = 0 then -1 else ((U.getD (j - 1) 0 : Nat) : Int)) := fun j hj => by
    have := rerF_at (q := ps) nI_nd hg (i := (nI U).length) (j := j) (Nat.le_refl _) (by omega) (by omega)
    rw [← hq] at this
    have e1 : (nI U)[j]'(by omega) = (U[j] : Int) := by simp [nI]
    rw [e1] at this
    have e2 : ((U[j] : Nat) : Int).toNat = U[j] := by omega
    rw [e2] at this
    rw [this]
    congr 1
    split
    · rfl
    · rename_i h0
      have hj1 : j - 1 < U.length := by omega
      simp [nI, hj1]
  generalize rerootI ps r = q at *
  obtain ⟨U', hU'⟩ := u1.head
  have h0 : ∀ h : 0 < U.length, U[0] = r := fun h => by simp [hU']
  have hUp : 0 < U.length := by rw [hU']; simp
  have fU0 : fOf q r = none := fOf_none (by have := hat 0 hUp; rw [h0 hUp] at this; simpa using this)
  have fUs : ∀ j (hj : j + 1 < U.length), fOf q U[j + 1] = some (U[j]'(by omega)) := fun j hj => by
    refine fOf_some ?_
    have := hat (j + 1) hj
    rw [if_neg (by omega)] at this
    rw [this]
    have hj1 : j < U.length := by omega
    simp [hj1]
  have fN : ∀ x, x ∉ U → fOf q x = fOf ps x := fun x hx => fOf_congr (hnot x hx)
  -- the way up, turned
  have fpU : ∀ {i : Nat} {W : List Nat}, Gy.Up (fOf ps) i W → ∀ j (hj : j + 1 < W.length), fOf ps (W[j]'(by omega)) = some W[j + 1] := by
    intro i W hW
    induction hW with
    | root h => intro j hj; simp at hj
    | @step i p W h t ih =>
      intro j hj
      cases j with
      | zero =>
        obtain ⟨W', e⟩ := t.head
        subst e
        simpa using h
      | succ j => exact ih j (by simpa using hj)
  have upU : ∀ j (hj : j < U.length), ∃ W, Gy.Up (fOf q) U[j] W ∧ ∀ x, x ∈ W → x < q.length := by
    intro j
    induction j with
    | zero =>
      intro hj
      rw [h0 hj]
      exact ⟨[r], .root fU0, fun x hx => by simp at hx; omega⟩
    | succ j ih =>
      intro hj
      obtain ⟨W, w1, w2⟩ := ih (by omega)
      refine ⟨U[j + 1] :: W, .step (fUs j hj) w1, fun x hx => ?_⟩
      rcases List.mem_cons.1 hx with rfl | hx
      · rw [hlen]; exact u2 _ (List.getElem_mem hj)
      · exact w2 x hx
  have upI' : ∀ i, i < q.length → ∃ W, Gy.Up (fOf q) i W ∧ ∀ x, x ∈ W → x < q.length := by
    intro i hi
    obtain ⟨W, w1, w2, w3⟩ := ht i (by omega)
    have hoW : o ∈ W := by have := hroot i (by omega); rw [w3] at this; exact mem_nI.1 this
    clear w3 hi
    induction w1 with
    | @root x h =>
      have : x = o := by simp at hoW; exact hoW.symm
      subst this
      obtain ⟨j, hj, e⟩ := List.getElem_of_mem hoU
      rw [← e]; exact upU j hj
    | @step x p W h t ih =>
      by_cases hx : x ∈ U
      · obtain ⟨j, hj, e⟩ := List.getElem_of_mem hx
        rw [← e]; exact upU j hj
      · have hoW' : o ∈ W := by
          rcases List.mem_cons.1 hoW with e | h
          · exact absurd (e ▸ hoU) hx
          · exact h
        obtain ⟨W2, g1, g2⟩ := ih (fun y hy => w2 y (List.mem_cons_of_mem _ hy)) hoW'
        refine ⟨x :: W2, .step (by rw [fN x hx]; exact h) g1, fun y hy => ?_⟩
        rcases List.mem_cons.1 hy with rfl | hy
        · rw [hlen]; exact w2 _ (by simp)
        · exact g2 y hy
  -- one root
  have hone : ∀ i (hi : i < ps.length), ps[i] = -1 → i ∈ U := by
    intro i hi e
    have h1 := hroot i hi
    obtain ⟨W, w1, w2, w3⟩ := ht i hi
    rw [w3] at h1
    have h2 := mem_nI.1 h1
    have hf : fOf ps i = none := fOf_none (by rw [List.getElem?_eq_getElem hi, e])
    rw [w1.uniq (.root hf)] at h2
    simp at h2
    rw [← h2]; exact hoU
  have hroot2 : ∀ i (hi : i < q.length), q[i] = -1 ↔ i = r := by
    intro i hi
    constructor
    · intro e
      by_cases hx : i ∈ U
      · obtain ⟨j, hj, e2⟩ := List.getElem_of_mem hx
        have := hat j hj
        rw [e2, List.getElem?_eq_getElem hi, e] at this
        by_cases c : j = 0
        · subst c; rw [← e2, h0]
        · rw [if_neg c] at this
          simp at this
      · have h1 := hnot i hx
        rw [List.getElem?_eq_getElem hi, List.getElem?_eq_getElem (by omega), e] at h1
        exact absurd (hone i (by omega) (by simpa using h1.symm)) hx
    · rintro rfl
      have := hat 0 hUp
      rw [h0 hUp, List.getElem?_eq_getElem hi] at this
      simpa using this
  have hge : ∀ x, x < q.length → -1 ≤ q.getD x (-1) := by
    intro x hx
    rw [List.getD_eq_getElem?_getD]
    by_cases hxU : x ∈ U
    · obtain ⟨j, hj, e2⟩ := List.getElem_of_mem hxU
      have := hat j hj
      rw [e2] at this
      rw [this]
      simp only [Option.getD_some]
      split <;> omega
    · rw [hnot x hxU, List.getElem?_eq_getElem (by omega)]
      have := tree_par htr (i := x) (by omega)
      simp only [Option.getD_some]
      omega
  refine ⟨hlen, tree_of (by omega) hroot2 hge upI', hroot2, fun a b ha hb => ?_⟩
  have dir : ∀ a b, fOf q a = some b → nbr (fOf ps) a b := by
    intro a b h
    by_cases hx : a ∈ U
    · obtain ⟨j, hj, e⟩ := List.getElem_of_mem hx
      cases j with
      | zero => rw [← e, h0 hj, fU0] at h; cases h
      | succ j =>
        rw [← e, fUs j hj] at h
        cases h
        exact .inr (by rw [fpU u1 j hj, e])
    · rw [fN a hx] at h; exact .inl h
  have rid : ∀ a b, fOf ps a = some b → nbr (fOf q) a b := by
    intro a b h
    by_cases hx : a ∈ U
    · obtain ⟨j, hj, e⟩ := List.getElem_of_mem hx
      by_cases hj2 : j + 1 < U.length
      · have h2 := fpU u1 j hj2
        rw [e, h] at h2
        cases h2
        exact .inr (by rw [fUs j hj2, e])
      · -- the last one is the root
        have : ∀ {i : Nat} {W : List Nat}, Gy.Up (fOf ps) i W → ∀ k (hk : k < W.length), ¬ k + 1 < W.length → fOf ps W[k] = none := by
          intro i W hW
          induction hW with
          | root h => intro k hk _; simp at hk; subst hk; exact h
          | @step i p W h t ih =>
            intro k hk hn
            cases k with
            | zero =>
              obtain ⟨W', e⟩ := t.head
              subst e
              simp at hn
            | succ k => exact ih k (by simpa using hk) (by simpa using hn)
        have h2 := this u1 j hj hj2
        rw [e, h] at h2
        cases h2
    · rw [← fN a hx] at h; exact .inl h
  constructor
  · rintro (h | h)
    · exact dir a b h
    · exact (dir b a h).symm
  · rintro (h | h)
    · exact rid a b h
    · exact (rid b a h).symm
end Go.Proofs.YtjplcdeaedflpaaGreatDoor.PL
namespace Go.Proofs.YtjplcdeaedflpaaGreatDoor.PL
open Go.Proofs
set_option linter.unusedVariables false
set_option linter.unusedSimpArgs false
/-- an order of a tree's nodes, from the root on -/
structure TOrd (n : Nat) (f : Nat → Option Nat) (Z : List Nat) : Prop where
  perm : Z.Perm (List.range n)
  par : ∀ i (h : i < Z.length), 0 < i → ∃ p, f Z[i] = some p ∧ p ∈ Z.take i
  root : ∀ (h : 0 < Z.length), f Z[0] = none
namespace TOrd
variable {n : Nat} {f : Nat → Option Nat} {Z : List Nat}
theorem lt (h : TOrd n f Z) {b : Nat} (hb : b ∈ Z) : b < n := by simpa using h.perm.mem_iff.1 hb
theorem mem (h : TOrd n f Z) {b : Nat} (hb : b < n) : b ∈ Z := h.perm.mem_iff.2 (by simpa using hb)
theorem nodup (h : TOrd n f Z) : Z.Nodup := h.perm.nodup_iff.2 List.nodup_range
theorem len (h : TOrd n f Z) : Z.length = n := by rw [h.perm.length_eq, List.length_range]
theorem before (h : TOrd n f Z) {A D : List Nat} {b p : Nat} (hZ : Z = A ++ b :: D) (hf : f b = some p) : p ∈ A := by
  subst hZ
  have hb : (A ++ b :: D)[A.length]? = some b := by simp
  obtain ⟨hl, hg⟩ := List.getElem?_eq_some_iff.1 hb
  rcases Nat.eq_zero_or_pos A.length with h0 | h0
  · have := h.root (by simp; omega)
    have e : (A ++ b :: D)[0]? = some b := by rw [← h0]; exact hb
    rw [(List.getElem?_eq_some_iff.1 e).2] at this
    rw [this] at hf
    cases hf
  · obtain ⟨q, h1, h2⟩ := h.par A.length hl h0
    rw [hg, hf] at h1
    cases h1
    simpa using h2
theorem parlt (h : TOrd n f Z) {b p : Nat} (hb : b < n) (hf : f b = some p) : p < n := by
  obtain ⟨A, D, hZ⟩ := List.append_of_mem (h.mem hb)
  exact h.lt (by rw [hZ]; exact List.mem_append_left _ (h.before hZ hf))
theorem ups (h : TOrd n f Z) : ∀ i (hi : i < Z.length), ∃ U, Gy.Up f Z[i] U ∧ ∀ x, x ∈ U → x ∈ Z.take (i + 1) := by
  intro i
  induction i using Nat.strongRecOn with
  | ind i ih =>
    intro hi
    rcases Nat.eq_zero_or_pos i with rfl | h0
    · exact ⟨_, .root (h.root hi), fun x hx => by
        rw [List.mem_singleton] at hx
        subst hx
        rw [List.mem_take_iff_getElem]
        exact ⟨0, by omega, rfl⟩⟩
    · obtain ⟨p, h1, h2⟩ := h.par i hi h0
      obtain ⟨j, hj, rfl⟩ := List.mem_take_iff_getElem.1 h2
      obtain ⟨U, u1, u2⟩ := ih j (by omega) (by omega)
      refine ⟨_, .step h1 u1, fun x hx => ?_⟩
      rcases List.mem_cons.1 hx with rfl | hx
      · rw [List.mem_take_iff_getElem]; exact ⟨i, by omega, rfl⟩
      · obtain ⟨k, hk, rfl⟩ := List.mem_take_iff_getElem.1 (u2 x hx)
        rw [List.mem_take_iff_getElem]
        exact ⟨k, by omega, rfl⟩
end TOrd
/-- has each row of one a match in the other? -/
def Match2 (l : List Rel) (a b : Nat) : Prop := ∀ x, x ∈ (l.getD a zR).rows → ∃ y, y ∈ (l.getD b zR).rows ∧ Agree ((l.getD a zR).cols, x) ((l.getD b zR).cols, y)
def semiAt (l : List Rel) (i k : Nat) : List Rel := l.set i (semiR (l.getD i zR) (l.getD k zR))
theorem stepJ_semi {l : List Rel} (hr : AllRight l) {i k : Nat} (hi : i < l.length) (hk : k < l.length) (hik : i ≠ k) : stepJ l ((i : Int), (k : Int)) = semiAt l i k := by
  unfold stepJ semiAt
  rw [if_pos ⟨by show (i : Int) ≠ k; omega, by show (0 : Int) ≤ i; omega, by show (i : Int) < _; omega, by show (0 : Int) ≤ k; omega, by show (k : Int) < _; omega⟩]
  show l.set (i : Int).toNat _ = _
  rw [held_getD hr, held_getD hr]
  rfl
theorem semiAt_get {l : List Rel} {i k j : Nat} (hi : i < l.length) : (semiAt l i k).getD j zR = if j = i then semiR (l.getD i zR) (l.getD k zR) else l.getD j zR := getD_setR hi
theorem Match2.keep {l : List Rel} {i k a b : Nat} (h : Match2 l a b) (hi : i < l.length) (hb : b ≠ i) : Match2 (semiAt l i k) a b := by
  intro x hx
  have e : (semiAt l i k).getD b zR = l.getD b zR := by rw [semiAt_get hi, if_neg hb]
  rw [e]
  have hc : ((semiAt l i k).getD a zR).cols = (l.getD a zR).cols ∧ x ∈ (l.getD a zR).rows := by
    rw [semiAt_get hi] at hx ⊢
    by_cases ha : a = i
    · subst ha
      rw [if_pos rfl] at hx ⊢
      exact ⟨rfl, (List.mem_filter.1 hx).1⟩
    · rw [if_neg ha] at hx ⊢
      exact ⟨rfl, hx⟩
  rw [hc.1]
  exact h x hc.2
theorem semi_mem {a b : Rel} {x : List Val} (h : x ∈ (semiR a b).rows) : x ∈ a.rows ∧ ∃ y, y ∈ b.rows ∧ Agree (a.cols, x) (b.cols, y) := by
  obtain ⟨h1, h2⟩ := List.mem_filter.1 h
  simp only [beq_true] at h2
  obtain ⟨y, hy, hm⟩ := List.any_eq_true.1 h2
  exact ⟨h1, y, hy, meetB_iff.1 hm⟩
theorem mem_semi {a b : Rel} {x y : List Val} (h : x ∈ a.rows) (hy : y ∈ b.rows) (hm : Agree (a.cols, x) (b.cols, y)) : x ∈ (semiR a b).rows := by
  refine List.mem_filter.2 ⟨h, ?_⟩
  simp only [beq_true]
  exact List.any_eq_true.2 ⟨y, hy, meetB_iff.2 hm⟩
theorem Match2.made {l : List Rel} {i k : Nat} (hi : i < l.length) (hik : i ≠ k) : Match2 (semiAt l i k) i k := by
  intro x hx
  have e1 : (semiAt l i k).getD i zR = semiR (l.getD i zR) (l.getD k zR) := by rw [semiAt_get hi, if_pos rfl]
  have e2 : (semiAt l i k).getD k zR = l.getD k zR := by rw [semiAt_get hi, if_neg (Ne.symm hik)]
  rw [e1] at hx ⊢
  rw [e2]
  exact (semi_mem hx).2
theorem Match2.back {l : List Rel} {i k : Nat} (h : Match2 l k i) (hi : i < l.length) (hik : i ≠ k) : Match2 (semiAt l i k) k i := by
  intro x hx
  have e1 : (semiAt l i k).getD i zR = semiR (l.getD i zR) (l.getD k zR) := by rw [semiAt_get hi, if_pos rfl]
  have e2 : (semiAt l i k).getD k zR = l.getD k zR := by rw [semiAt_get hi, if_neg (Ne.symm hik)]
  rw [e2] at hx ⊢
  rw [e1]
  obtain ⟨y, hy, ha⟩ := h x hx
  exact ⟨y, mem_semi hy hx ha.symm, ha⟩
def upH (f : Nat → Option Nat) (b : Nat) : List (Int × Int) := match f b with | some p => [((p : Int), (b : Int))] | none => []
def dnH (f : Nat → Option Nat) (b : Nat) : List (Int × Int) := match f b with | some p => [((b : Int), (p : Int))] | none => []
def upP (f : Nat → Option Nat) (Z : List Nat) : List (Int × Int) := Z.reverse.flatMap (upH f)
def dnP (f : Nat → Option Nat) (Z : List Nat) : List (Int × Int) := Z.flatMap (dnH f)
theorem up_phase {n : Nat} {f : Nat → Option Nat} {Z : List Nat} (ho : TOrd n f Z) {l : List Rel} (hr : AllRight l) (hl : l.length = n) : ∀ (D A : List Nat), Z = A ++ D → ∀ b p, b ∈ D → f b = some p → Match2 (playJ l (upP f D)) p b
  | [], _, _, b, _, hb, _ => by cases hb
  | c :: D, A, hZ, b, p, hb, hf => by
    have ih := up_phase ho hr hl D (A ++ [c]) (by rw [hZ]; simp)
    have hnd : (A ++ c :: D).Nodup := by rw [← hZ]; exact ho.nodup
    have e : upP f (c :: D) = upP f D ++ upH f c := by unfold upP; rw [List.reverse_cons, List.flatMap_append]; simp
    rw [e, playJ_app]
    have hr1 : AllRight (playJ l (upP f D)) := playJ_right _ hr
    have hl1 : (playJ l (upP f D)).length = n := by rw [playJ_len, hl]
    generalize playJ l (upP f D) = l1 at *
    unfold upH
    have hcn : c < n := ho.lt (by rw [hZ]; simp)
    cases hc : f c with
    | none =>
      rcases List.mem_cons.1 hb with rfl | hb
      · rw [hc] at hf; cases hf
      · exact ih b p hb hf
    | some q =>
      have hqA := ho.before hZ hc
      have hqn : q < n := ho.lt (by rw [hZ]; simp [hqA])
      have hqc : q ≠ c := by
        rintro rfl
        rw [List.nodup_append] at hnd
        exact hnd.2.2 _ hqA _ List.mem_cons_self rfl
      show Match2 (stepJ l1 _) p b
      rw [stepJ_semi hr1 (by omega) (by omega) hqc]
      rcases List.mem_cons.1 hb with rfl | hb
      · rw [hc] at hf
        cases hf
        exact Match2.made (by omega) hqc
      · refine (ih b p hb hf).keep (by omega) ?_
        rintro rfl
        rw [List.nodup_append] at hnd
        exact hnd.2.2 _ hqA _ (List.mem_cons_of_mem _ hb) rfl
theorem down_phase {n : Nat} {f : Nat → Option Nat} {Z : List Nat} (ho : TOrd n f Z) {l : List Rel} (hr : AllRight l) (hl : l.length = n) (h0 : ∀ b p, b < n → f b = some p → Match2 l p b) : ∀ (m : Nat) (A D : List Nat), A.length = m → Z = A ++ D →
    (∀ b p, b ∈ A → f b = some p → Match2 (playJ l (dnP f A)) b p) ∧ ∀ b p, b < n → f b = some p → Match2 (playJ l (dnP f A)) p b
  | 0, A, D, hA, hZ => by
    obtain rfl := List.eq_nil_of_length_eq_zero hA
    exact ⟨fun b p hb _ => absurd hb List.not_mem_nil, h0⟩
  | m + 1, A, D, hA, hZ => by
    rcases List.eq_nil_or_concat A with rfl | ⟨A, c, rfl⟩
    · cases hA
    rw [List.concat_eq_append] at hA hZ ⊢
    have ih := down_phase ho hr hl h0 m A (c :: D) (by simpa using hA) (by rw [hZ]; simp)
    have hnd : (A ++ [c] ++ D).Nodup := by rw [← hZ]; exact ho.nodup
    have hZ2 : Z = A ++ c :: D := by rw [hZ]; simp
    have e : dnP f (A ++ [c]) = dnP f A ++ dnH f c := by unfold dnP; rw [List.flatMap_append]; simp
    rw [e, playJ_app]
    have hr1 : AllRight (playJ l (dnP f A)) := playJ_right _ hr
    have hl1 : (playJ l (dnP f A)).length = n := by rw [playJ_len, hl]
    generalize playJ l (dnP f A) = l1 at *
    obtain ⟨i1, i2⟩ := ih
    unfold dnH
    have hcn : c < n := ho.lt (by rw [hZ]; simp)
    have hcA : c ∉ A := by
      intro h
      rw [List.append_assoc, List.nodup_append] at hnd
      exact hnd.2.2 _ h _ (by simp) rfl
    cases hc : f c with
    | none =>
      refine ⟨fun b p hb hf => ?_, i2⟩
      rcases List.mem_append.1 hb with hb | hb
      · exact i1 b p hb hf
      · rw [List.mem_singleton] at hb
        subst hb
        rw [hc] at hf; cases hf
    | some q =>
      have hqA := ho.before hZ2 hc
      have hqn : q < n := ho.lt (by rw [hZ]; simp [hqA])
      have hqc : c ≠ q := by rintro rfl; exact hcA hqA
      show (∀ b p, b ∈ A ++ [c] → f b = some p → Match2 (stepJ l1 _) b p) ∧ ∀ b p, b < n → f b = some p → Match2 (stepJ l1 _) p b
      rw [stepJ_semi hr1 (by omega) (by omega) hqc]
      refine ⟨fun b p hb hf => ?_, fun b p hb hf => ?_⟩
      · rcases List.mem_append.1 hb with hb3 | hb
        · refine (i1 b p hb3 hf).keep (by omega) ?_
          rintro rfl
          obtain ⟨A1, A2, hA12⟩ := List.append_of_mem hb3
          have := ho.before (A := A1) (D := A2 ++ p :: D) (by rw [hZ2, hA12]; simp) hf
          exact hcA (by rw [hA12]; exact List.mem_append_left _ this)
        · rw [List.mem_singleton] at hb
          subst hb
          rw [hc] at hf
          cases hf
          exact Match2.made (by omega) hqc
      · by_cases hbc : b = c
        · subst hbc
          rw [hc] at hf
          cases hf
          exact (i2 b q hb hc).back (by omega) hqc
        · exact (i2 b p hb hf).keep (by omega) hbc
theorem play_reduced {n : Nat} {f : Nat → Option Nat} {Z : List Nat} (ho : TOrd n f Z) {l : List Rel} (hr : AllRight l) (hl : l.length = n) {b p : Nat} (hb : b < n) (hf : f b = some p) :
    Match2 (playJ l (upP f Z ++ dnP f Z)) p b ∧ Match2 (playJ l (upP f Z ++ dnP f Z)) b p := by
  rw [playJ_app]
  have h1 := up_phase ho hr hl Z [] rfl
  obtain ⟨h2, h3⟩ := down_phase ho (playJ_right (upP f Z) hr) (by rw [playJ_len, hl]) (fun b p hb hf => h1 b p (ho.mem hb) hf) _ Z [] rfl (by simp)
  exact ⟨h3 b p hb hf, h2 b p (ho.mem hb) hf⟩
/-- what a join tree of relations is -/
def Hangs (n : Nat) (f : Nat → Option Nat) (l : List Rel) : Prop := ∀ v a b, a < n → b < n → v ∈ (l.getD a zR).cols → v ∈ (l.getD b zR).cols → Wk (nbr f) (fun k => v ∈ (l.getD k zR).cols) a b
theorem ext_row {n : Nat} {f : Nat → Option Nat} {Z : List Nat} (ho : TOrd n f Z) {l : List Rel} (hl : l.length = n) (hm : ∀ b p, b < n → f b = some p → Match2 l p b) (hj : Hangs n f l) {k : Nat} (hk0 : 0 < k) (hk : k < Z.length) {t : List Ent} (ht : t ∈ tupsR ((Z.take k).map fun i => l.getD i zR)) (hc : consB t = true) :
    ∃ y, y ∈ (l.getD Z[k] zR).rows ∧ consB (t ++ [((l.getD Z[k] zR).cols, y)]) = true := by
  obtain ⟨p, hp, hpm⟩ := ho.par k hk hk0
  obtain ⟨j, hj1, hj2⟩ := List.mem_take_iff_getElem.1 hpm
  have hjk : j < k := by omega
  have hbn : Z[k] < n := ho.lt (List.getElem_mem _)
  obtain ⟨ht1, ht2⟩ := tups_mem.1 ht
  have hlen : ((Z.take k).map fun i => l.getD i zR).length = k := by simp; omega
  have hent : ∀ i (hi : i < k), t[i].1 = (l.getD Z[i] zR).cols ∧ t[i].2 ∈ (l.getD Z[i] zR).rows := fun i hi => by
    have := ht2 i (by omega) (by omega)
    rw [List.getElem_map, List.getElem_take] at this
    exact this
  obtain ⟨e1, e2⟩ := hent j hjk
  rw [hj2] at e1 e2
  obtain ⟨y, hy, hag⟩ := hm Z[k] p hbn hp _ e2
  refine ⟨y, hy, consB_snoc.2 ⟨hc, fun e he c h1 h2 => ?_⟩⟩
  obtain ⟨m, hm1, rfl⟩ := List.getElem_of_mem he
  have hmk : m < k := by omega
  obtain ⟨f1, f2⟩ := hent m hmk
  rw [f1] at h1
  have hwk := hj c Z[k] Z[m] hbn (ho.lt (List.getElem_mem _)) h2 h1
  obtain ⟨A, a1, a2⟩ := ho.ups k hk
  obtain ⟨B, b1, b2⟩ := ho.ups m (by omega)
  have hin : Z[k] ∈ A := by cases a1 <;> simp
  have hnin : Z[k] ∉ B := fun h => by
    obtain ⟨i, hi, he⟩ := List.mem_take_iff_getElem.1 (b2 _ h)
    have := (List.getElem_inj ho.nodup).1 he
    omega
  obtain ⟨_, q, hq, hcq⟩ := hwk.exit a1 b1 hin hnin
  rw [hp] at hq
  cases hq
  have h3 := pairs_same (consB_iff.1 hc) (List.getElem_mem hm1) (List.getElem_mem (show j < t.length by omega)) (c := c) (by rw [f1]; exact h1) (by rw [e1]; exact hcq)
  obtain ⟨g1, g2⟩ := hag c hcq h2
  have h4 : getE t[j] c = getE ((l.getD p zR).cols, t[j].2) c := by unfold getE; rw [e1]
  rw [h3, h4]
  exact ⟨g1, g2⟩
theorem full_tuple {n : Nat} {f : Nat → Option Nat} {Z : List Nat} (ho : TOrd n f Z) {l : List Rel} (hl : l.length = n) (hm : ∀ b p, b < n → f b = some p → Match2 l p b) (hj : Hangs n f l) (h0 : 0 < Z.length) {x : List Val} (hx : x ∈ (l.getD Z[0] zR).rows) :
    ∀ k, k < Z.length → ∃ t, t ∈ tupsR ((Z.take (k + 1)).map fun i => l.getD i zR) ∧ consB t = true ∧ t[0]? = some ((l.getD Z[0] zR).cols, x)
  | 0, _ => by
    refine ⟨[((l.getD Z[0] zR).cols, x)], ?_, by simp [consB], rfl⟩
    have : Z.take 1 = [Z[0]] := by
      match Z, h0 with
      | z :: Z, _ => rfl
    rw [this]
    simp [tupsR]
    simpa using hx
  | k + 1, hk => by
    obtain ⟨t, t1, t2, t3⟩ := full_tuple ho hl hm hj h0 hx k (by omega)
    obtain ⟨y, y1, y2⟩ := ext_row ho hl hm hj (by omega) hk t1 t2
    refine ⟨_, ?_, y2, ?_⟩
    · have e : (Z.take (k + 1 + 1)).map (fun i => l.getD i zR) = (Z.take (k + 1)).map (fun i => l.getD i zR) ++ [l.getD Z[k + 1] zR] := by
        rw [List.take_succ_eq_append_getElem hk, List.map_append]; rfl
      rw [e, tups_snoc, List.mem_flatMap]
      exact ⟨t, t1, List.mem_map.2 ⟨y, y1, rfl⟩⟩
    · rw [List.getElem?_append_left (List.getElem?_eq_some_iff.1 t3).1]; exact t3
theorem map_range (l : List Rel) : (List.range l.length).map (fun i => l.getD i zR) = l := by
  apply List.ext_getElem
  · simp
  · intro i h1 h2
    rw [List.getElem_map, List.getElem_range, getD_ltR h2]
theorem ord_perm {n : Nat} {f : Nat → Option Nat} {Z : List Nat} (ho : TOrd n f Z) {l : List Rel} (hl : l.length = n) : (Z.map fun i => l.getD i zR).Perm l := by
  have := ho.perm.map fun i => l.getD i zR
  rw [← hl, map_range] at this
  exact this
/-- each row at the root takes part -/
theorem root_part {n : Nat} {f : Nat → Option Nat} {Z : List Nat} (ho : TOrd n f Z) {l : List Rel} (hl : l.length = n) (hm : ∀ b p, b < n → f b = some p → Match2 l p b) (hj : Hangs n f l) (h0 : 0 < Z.length) {x : List Val} (hx : x ∈ (l.getD Z[0] zR).rows) : partB l Z[0] x = true := by
  obtain ⟨t, t1, t2, t3⟩ := full_tuple ho hl hm hj h0 hx (Z.length - 1) (by omega)
  rw [show Z.length - 1 + 1 = Z.length by omega, List.take_length] at t1
  have hr : Z[0] < l.length := by rw [hl]; exact ho.lt (List.getElem_mem _)
  unfold partB
  rw [decide_eq_true_iff]
  have hp := (allJ_perm (ord_perm ho (l := l.set Z[0] ⟨(l.getD Z[0] zR).cols, [x]⟩) (by simpa using hl))).2
  rw [← hp.length_eq, allJ_rows, List.length_pos_iff, Ne, List.filterMap_eq_nil_iff]
  intro h
  have hlt := (tups_mem.1 t1).1
  rw [List.length_map] at hlt
  have hin : t ∈ tupsR (Z.map fun i => (l.set Z[0] ⟨(l.getD Z[0] zR).cols, [x]⟩).getD i zR) := by
    refine tups_of (by simpa using hlt) fun i hi => ?_
    rw [List.length_map] at hi
    have hg := tups_get t1 (i := i) (by simpa using hi)
    have em : ∀ g : Nat → Rel, (Z.map g).getD i zR = g Z[i] := fun g => by
      rw [getD_ltR (by simpa using hi), List.getElem_map]
    rw [em] at hg ⊢
    rw [getD_setR hr]
    by_cases hiz : Z[i] = Z[0]
    · have : i = 0 := (List.getElem_inj ho.nodup).1 hiz
      subst this
      rw [if_pos rfl]
      exact ⟨x, List.mem_cons_self, t3⟩
    · rw [if_neg hiz]; exact hg
  have := h t hin
  unfold rowT at this
  rw [if_pos t2] at this
  cases this
end Go.Proofs.YtjplcdeaedflpaaGreatDoor.PL
namespace Go.Proofs.YtjplcdeaedflpaaGreatDoor.PL
open Go.Proofs Go.RowKit
set_option linter.unusedVariables false
set_option linter.unusedSimpArgs false
theorem prodR_set : ∀ (l : List Rel) (i : Nat) (r : Rel), r.rows.length ≤ (l.getD i zR).rows.length → prodR (l.set i r) ≤ prodR l
  | [], i, r, _ => Nat.le_refl _
  | a :: l, 0, r, h => Nat.mul_le_mul_right _ (by have : r.rows.length ≤ a.rows.length := h; omega)
  | a :: l, i + 1, r, h => Nat.mul_le_mul_left _ (prodR_set l i r h)
theorem OkL.step' {l : List Rel} (h : OkL l) (p : Int × Int) : OkL (stepJ l p) := by
  have hp := h.okP.step p
  refine ⟨hp.ok, hp.nc, hp.len, Nat.le_trans ?_ h.pr⟩
  unfold stepJ
  split
  · refine prodR_set l _ _ ?_
    refine Nat.le_trans (List.length_filter_le ..) ?_
    exact held_rows _
  · exact Nat.le_refl _
theorem OkL.play {prog : List (Int × Int)} : ∀ {l : List Rel}, OkL l → OkL (playJ l prog) := by
  induction prog with
  | nil => intro l h; exact h
  | cons p prog ih => intro l h; exact ih (h.step' p)
theorem prodR_range : ∀ (l : List Rel) (n : Nat), prodR ((List.range n).map fun i => l.getD i zR) ≤ prodR l
  | l, 0 => prodR_pos l
  | [], n + 1 => by
    have : ∀ m, prodR ((List.range m).map fun i => ([] : List Rel).getD i zR) = 1 := fun m => by
      rw [show ((List.range m).map fun i => ([] : List Rel).getD i zR) = List.replicate m zR from by
        apply List.ext_getElem
        · simp
        · intro i h1 h2; simp]
      induction m with
      | zero => rfl
      | succ m ih => rw [List.replicate_succ]; show (0 + 1) * _ = 1; rw [ih]
    rw [this]
    exact Nat.le_refl _
  | a :: l, n + 1 => by
    rw [List.range_succ_eq_map, List.map_cons, List.map_map]
    exact Nat.mul_le_mul_left _ (prodR_range l n)
def treeOrd (l : List Rel) (ps : List Int) : List Rel := (downI (heldI ps)).map fun n => l.getD n.toNat zR
theorem treeOrd_len (l : List Rel) (ps : List Int) : (treeOrd l ps).length ≤ ps.length := by
  unfold treeOrd
  rw [List.length_map, downI_len]
  exact heldI_len ps
theorem treeOrd_perm (l : List Rel) (ps : List Int) : (treeOrd l ps).Perm ((List.range (heldI ps).length).map fun i => l.getD i zR) := by
  have h := (downI_of (heldI ps)).1.map fun n : Int => l.getD n.toNat zR
  unfold treeOrd
  refine h.trans ?_
  unfold upTo
  rw [List.map_map]
  exact List.Perm.of_eq (List.map_congr_left fun i _ => by show l.getD (i : Int).toNat zR = _; rw [Int.toNat_natCast])
theorem OkL.order {l : List Rel} (h : OkL l) {ps : List Int} (hp : ps.length ≤ 40) : OkL (treeOrd l ps) := by
  have hin : ∀ r, r ∈ treeOrd l ps → OkR r ∧ r.cols.length ≤ 20 := fun r hr => by
    obtain ⟨n, _, rfl⟩ := List.mem_map.1 hr
    exact h.okP.getD _
  refine ⟨fun r hr => (hin r hr).1, fun r hr => (hin r hr).2, Nat.le_trans (treeOrd_len l ps) hp, ?_⟩
  rw [prodR_perm (treeOrd_perm l ps)]
  exact Nat.le_trans (prodR_range l _) h.pr
/-- relations, each with whose its lists are -/
@[simp] abbrev orel (q : Own × Own × Rel) : AV := .agg [.sl q.1 (ints' q.2.2.cols), .sl q.2.1 (rows' q.2.2.rows)]
instance : Sized orel 2 := ⟨fun _ => rfl⟩
theorem Frz.orels {H : List HO} {own : Own} : ∀ {Q : List (Own × Own × Rel)} {R : List Rel}, Q.map (fun q => q.2.2) = R → Frz H (.sl own (avs orel Q)) (.sl .no (rels' R)) := by
  intro Q R hQ
  subst hQ
  refine .sl ?_ (by simp) fun n hn y hy => ?_
  · induction Q with
    | nil => exact .nil
    | cons q Q ih => exact .cons (Frz.slN (f := AV.int .i64)) (.cons (Frz.slN (f := fun r => AV.sl .no (vals' r))) ih)
  · obtain ⟨a, ha, rfl⟩ := mem_avs.1 hy
    obtain ⟨q, hq, rfl⟩ := List.mem_map.1 ha
    have := hn (orel q) (mem_avs.2 ⟨q, hq, rfl⟩)
    rw [← this]
    rfl
theorem T_rRight25 (l : List Rel) (h : OkL l) : T Tryz.prog 35 [.sl .no (rels' l)] (.bool (l.all rightR)) := by
  have hlen := h.len
  refine T.intro (TS.body mix Tryz.func35 (by kernel_rfl) rfl (by kernel_rfl) (by simp) ?_)
  simp
  refine vc_loop (fun i : Nat => l.length - i) (fun i e H => e 0 = .sl .no (rels' l) ∧ e 3 = .int .i64 i ∧ i ≤ l.length ∧ (l.take i).all rightR = true) 0 ?_ ?_
  · simp
  rintro i e H ⟨e0, e3, hi, ha⟩
  by_cases hlt : i < l.length
  · have ew := wrap_next hlt (by omega)
    have k := T_rright24 l[i] (h.ok _ (List.getElem_mem hlt))
    simp [e0, e3, hlt]
    refine TS.callW k (Dws.self (by simp)) ?_
    cases hr : rightR l[i] with
    | false =>
      have : l.all rightR = false := by
        rw [List.all_eq_false]
        exact ⟨_, List.getElem_mem hlt, by rw [hr]; simp⟩
      simp [this]
    | true =>
      simp [e0, e3]
      refine ⟨i + 1, by omega, ew, by omega, ?_⟩
      have hnx : (l.take (i + 1)).all rightR = true := by rw [take_next hlt, List.all_append, ha, List.all_cons, hr]; rfl
      simpa using hnx
  · have : i = l.length := by omega
    subst this
    rw [List.take_length] at ha
    simp [e0, e3, ha]
end Go.Proofs.YtjplcdeaedflpaaGreatDoor.PL
namespace Go.Proofs.YtjplcdeaedflpaaGreatDoor.PL
open Go.Proofs
set_option linter.unusedVariables false
set_option linter.unusedSimpArgs false
theorem Wk.congrX {N M : Nat → Nat → Prop} {X : Nat → Prop} (hs : ∀ a b, X a → X b → N a b → M a b) {a b : Nat} (h : Wk N X a b) : Wk M X a b := by
  induction h with
  | refl h => exact .refl h
  | step h e t ih => exact .step h (hs _ _ h t.head e) ih
end Go.Proofs.YtjplcdeaedflpaaGreatDoor.PL
namespace Go.Proofs.YtjplcdeaedflpaaGreatDoor.PL
open Go.Proofs Go.RowKit
set_option linter.unusedVariables false
set_option linter.unusedSimpArgs false
theorem up_in {f : Nat → Option Nat} {m : Nat} {R : List Nat} : ∀ {P : List Nat} {a k : Nat} {N : List Nat}, Gy.Up f a (P ++ m :: R) → k ∈ P → Gy.Up f k N → m ∈ N
  | [], a, k, N, _, h, _ => by cases h
  | x :: P, a, k, N, h, hk, hN => by
    generalize hL : x :: P ++ m :: R = L at h
    cases h with
    | root hf => simp at hL
    | @step _ p U hf hU =>
      rw [List.cons_append] at hL
      injection hL with h1 h2
      subst h1
      subst h2
      rcases List.mem_cons.1 hk with rfl | hk
      · have h2 : Gy.Up f k (k :: (P ++ m :: R)) := .step hf hU
        rw [hN.uniq h2]
        simp
      · exact up_in hU hk hN
theorem joins_hang {h : List (List Int)} {ps : List Int} (hj : joinsP h ps) : ∀ v a b, vx h a v → vx h b v → Wk (nbr (fOf ps)) (fun k => vx h k v) a b := by
  obtain ⟨hl, htr, hp⟩ := hj
  have key : ∀ v a b : Nat, True := fun _ _ _ => trivial
  have key : ∀ (v : Int) (a b : Nat), b < a → vx h a v → vx h b v → Wk (nbr (fOf ps)) (fun k => vx h k v) a b := by
    intro v a b hab ha hb
    have hal := vx_lt ha
    have hbl := vx_lt hb
    obtain ⟨P1, P2, m, R, h1, h2, h3⟩ := path_two htr (i := a) (j := b) (by omega) (by omega)
    refine h1.conn.1 fun k hk => ?_
    have hkn := h3 k hk
    obtain ⟨N, n1, n2, n3⟩ := tree_ok htr k hkn
    have hmN : m ∈ N := by
      rw [List.mem_append, List.mem_cons, List.mem_reverse] at hk
      rcases hk with hk | rfl | hk
      · exact up_in h1.u1 hk n1
      · cases n1 <;> simp
      · exact up_in h1.u2 hk n1
    have hmeet : Gy.meet (P1 ++ m :: R) (P2 ++ m :: R) = some m := by
      unfold Gy.meet
      rw [List.find?_append, List.find?_eq_none.2 fun x hx => by simpa using h1.d x hx]
      simp
    have hin : k ∈ P1 ++ m :: R ∨ k ∈ P2 ++ m :: R := by
      rw [List.mem_append, List.mem_cons, List.mem_reverse] at hk
      rcases hk with hk | rfl | hk
      · exact .inl (List.mem_append_left _ hk)
      · exact .inl (by simp)
      · exact .inr (List.mem_append_left _ hk)
    have hpath := (path_on (tree_ok htr) (by omega) (by omega) hkn).2 ⟨_, _, _, _, h1.u1, h1.u2, n1, hin, hmeet, hmN⟩
    exact withinI_iff.1 (hp a b k hal hab (by omega) hpath) v (sharedI_mem.2 ⟨ha, hb⟩)
  intro v a b ha hb
  rcases Nat.lt_trichotomy a b with h1 | h1 | h1
  · exact (key v b a h1 hb ha).symm nbr_symm
  · subst h1; exact .refl ha
  · exact key v a b h1 ha hb
/-- a tree's nodes from the root on, as numbers -/
abbrev downN (ps : List Int) : List Nat := (downI ps).map Int.toNat
theorem downN_at {ps : List Int} {i : Nat} (h : i < (downN ps).length) : ∃ h' : i < (downI ps).length, (downI ps)[i] = ((downN ps)[i] : Int) ∧ (downN ps)[i] < ps.length := by
  have h' : i < (downI ps).length := by simpa [downN] using h
  refine ⟨h', ?_⟩
  have hm := (downI_of ps).1.mem_iff.1 (List.getElem_mem h')
  unfold upTo at hm
  obtain ⟨m, hm, e⟩ := List.mem_map.1 hm
  have hm := List.mem_range.1 hm
  have e2 : (downN ps)[i] = m := by
    unfold downN
    rw [List.getElem_map, ← e]
    rfl
  rw [e2]
  exact ⟨e.symm, hm⟩
theorem dpt_par {ps : List Int} (htr : treeI ps = true) {b p : Nat} (hb : b < ps.length) (hf : fOf ps b = some p) : p < ps.length ∧ dpt ps (b : Int) = dpt ps (p : Int) + 1 := by
  obtain ⟨U, u1, u2, u3⟩ := tree_ok htr b hb
  cases u1 with
  | root h => rw [hf] at h; cases h
  | @step _ q W h t =>
    rw [hf] at h
    cases h
    have hp : p < ps.length := u2 p (List.mem_cons_of_mem _ (by cases t <;> simp))
    obtain ⟨V, v1, v2, v3⟩ := tree_ok htr p hp
    have := v1.uniq t
    subst this
    refine ⟨hp, ?_⟩
    unfold dpt
    rw [u3, v3]
    simp [nI]
theorem tree_before {ps : List Int} (htr : treeI ps = true) {i : Nat} (h : i < (downN ps).length) {p : Nat} (hf : fOf ps (downN ps)[i] = some p) : ∃ j, ∃ h' : j < (downN ps).length, j < i ∧ (downN ps)[j] = p := by
  obtain ⟨hi, e, hlt⟩ := downN_at h
  obtain ⟨hp, hd⟩ := dpt_par htr hlt hf
  have hmem : (p : Int) ∈ downI ps := (downI_of ps).1.mem_iff.2 (by unfold upTo; exact List.mem_map.2 ⟨p, by simpa using hp, rfl⟩)
  obtain ⟨j, hj, hje⟩ := List.getElem_of_mem hmem
  have hj' : j < (downN ps).length := by simpa [downN] using hj
  refine ⟨j, hj', ?_, ?_⟩
  · rcases Nat.lt_trichotomy j i with h1 | h1 | h1
    · exact h1
    · subst h1
      rw [e] at hje
      have : dpt ps ((downN ps)[j] : Int) = dpt ps (p : Int) := by rw [hje]
      omega
    · have := List.pairwise_iff_getElem.1 (downI_of ps).2 i j hi hj h1
      rw [e, hje] at this
      unfold dleP at this
      omega
  · unfold downN
    rw [List.getElem_map, hje]
    rfl
theorem tree_ord {ps : List Int} (htr : treeI ps = true) : TOrd ps.length (fOf ps) (downN ps) := by
  have hperm : (downN ps).Perm (List.range ps.length) := by
    have := (downI_of ps).1.map Int.toNat
    refine this.trans (List.Perm.of_eq ?_)
    unfold upTo
    rw [List.map_map]
    have : ∀ l : List Nat, l.map (Int.toNat ∘ fun k : Nat => (k : Int)) = l := fun l => by
      induction l with
      | nil => rfl
      | cons a l ih => rw [List.map_cons, ih]; rfl
    exact this _
  have hroot : ∀ (h : 0 < (downN ps).length), fOf ps (downN ps)[0] = none := fun h => by
    cases hf : fOf ps (downN ps)[0] with
    | none => rfl
    | some p =>
      obtain ⟨j, _, hj, _⟩ := tree_before htr h hf
      omega
  refine ⟨hperm, fun i h h0 => ?_, hroot⟩
  cases hf : fOf ps (downN ps)[i] with
  | some p =>
    obtain ⟨j, hj', hj, e⟩ := tree_before htr h hf
    exact ⟨p, rfl, by rw [List.mem_take_iff_getElem]; exact ⟨j, by omega, e⟩⟩
  | none =>
    exfalso
    have h00 := hroot (by omega)
    have hn : 0 < ps.length := by rw [← List.length_range (n := ps.length), ← hperm.length_eq]; omega
    have hcnt : ps.count (-1) = 1 := by
      unfold treeI at htr
      simp only [Bool.and_eq_true, Bool.or_eq_true, decide_eq_true_iff] at htr
      rcases htr.2 with h | h
      · omega
      · exact h
    obtain ⟨r, hr, hu⟩ := one_count hcnt
    have aux : ∀ b (hb : b < ps.length), fOf ps b = none → ps[b] = -1 := fun b hb hfk => by
      unfold fOf at hfk
      rw [List.getD_eq_getElem?_getD, List.getElem?_eq_getElem hb] at hfk
      by_cases hm : ps[b] = -1
      · exact hm
      · simp [hm] at hfk
    have isr : ∀ k (h : k < (downN ps).length), fOf ps (downN ps)[k] = none → (downN ps)[k] = r := fun k h hfk => by
      obtain ⟨_, _, hlt⟩ := downN_at h
      exact (hu _ hlt).1 (aux _ hlt hfk)
    have e := (isr i h hf).trans (isr 0 (by omega) h00).symm
    have hnd : (downN ps).Nodup := hperm.nodup_iff.2 List.nodup_range
    have := (List.getElem_inj hnd).1 e
    omega
theorem fOf_par {ps : List Int} (htr : treeI ps = true) {b : Nat} (hb : b < ps.length) : (0 ≤ parOf ps (b : Int) ∧ ∃ p : Nat, fOf ps b = some p ∧ parOf ps (b : Int) = p) ∨ (¬ 0 ≤ parOf ps (b : Int) ∧ fOf ps b = none) := by
  rw [parOf_nat hb]
  rcases tree_par htr hb with h | ⟨h1, h2⟩
  · refine .inr ⟨by omega, ?_⟩
    unfold fOf
    rw [List.getD_eq_getElem?_getD, List.getElem?_eq_getElem hb]
    simp [h]
  · refine .inl ⟨h1, ps[b].toNat, ?_, by omega⟩
    unfold fOf
    rw [List.getD_eq_getElem?_getD, List.getElem?_eq_getElem hb]
    have : ¬ ps[b] = -1 := by omega
    simp [this]
theorem below_dn {ps : List Int} (htr : treeI ps = true) : ∀ (Z : List Int), (∀ x, x ∈ Z → ∃ m : Nat, x = m ∧ m < ps.length) → belowP ps Z = dnP (fOf ps) (Z.map Int.toNat) ∧ (belowP ps Z).map swpP = (Z.map Int.toNat).flatMap (upH (fOf ps))
  | [], _ => ⟨rfl, rfl⟩
  | x :: Z, h => by
    obtain ⟨i1, i2⟩ := below_dn htr Z fun y hy => h y (List.mem_cons_of_mem _ hy)
    obtain ⟨m, rfl, hm⟩ := h x List.mem_cons_self
    have e : belowP ps ((m : Int) :: Z) = (if 0 ≤ parOf ps (m : Int) then [((m : Int), parOf ps (m : Int))] else []) ++ belowP ps Z := by
      unfold belowP
      rw [List.filter_cons]
      by_cases hp : 0 ≤ parOf ps (m : Int) <;> simp [hp]
    rw [e, List.map_append, i2, i1]
    unfold dnP
    rw [List.map_cons, List.flatMap_cons, List.flatMap_cons, Int.toNat_natCast]
    rcases fOf_par htr hm with ⟨h1, p, h2, h3⟩ | ⟨h1, h2⟩
    · rw [if_pos h1, h3]
      unfold dnH upH
      rw [h2]
      exact ⟨rfl, rfl⟩
    · rw [if_neg h1]
      unfold dnH upH
      rw [h2]
      exact ⟨rfl, rfl⟩
theorem heldI_tree {ps : List Int} (htr : treeI ps = true) : heldI ps = ps := if_pos htr
theorem prog_tree {ps : List Int} (htr : treeI ps = true) : progL ps = upP (fOf ps) (downN ps) ++ dnP (fOf ps) (downN ps) := by
  have hin : ∀ x, x ∈ downI ps → ∃ m : Nat, x = m ∧ m < ps.length := fun x hx => by
    have := down_in (ps := ps) (x := x) (by rw [heldI_tree htr]; exact hx)
    exact this.2
  unfold progL
  rw [← up_rev]
  unfold belowL
  rw [heldI_tree htr]
  congr 1
  · rw [(below_dn htr (downI ps).reverse fun x hx => hin x (List.mem_reverse.1 hx)).2]
    unfold upP downN
    rw [List.map_reverse]
  · exact (below_dn htr (downI ps) hin).1
theorem hang_of {h : List (List Int)} {l : List Rel} {ps : List Int} (hc : ∀ i, (l.getD i zR).cols = h.getD i []) (hw : ∀ v a b, vx h a v → vx h b v → Wk (nbr (fOf ps)) (fun k => vx h k v) a b) (n : Nat) : Hangs n (fOf ps) l := by
  intro v a b _ _ ha hb
  have e : (fun k => v ∈ (l.getD k zR).cols) = fun k => vx h k v := funext fun k => by show _ = (v ∈ h.getD k []); rw [hc]
  rw [e]
  rw [hc] at ha hb
  exact hw v a b ha hb
/-- a tree's program, played: along each edge all rows match -/
theorem tree_played {l : List Rel} {ps : List Int} (hr : AllRight l) (htr : treeI ps = true) (hl : l.length = ps.length) {b p : Nat} (hb : b < ps.length) (hf : fOf ps b = some p) : Match2 (playJ l (progL ps)) p b ∧ Match2 (playJ l (progL ps)) b p := by
  rw [prog_tree htr]
  exact play_reduced (tree_ord htr) hr hl hb hf
end Go.Proofs.YtjplcdeaedflpaaGreatDoor.PL
namespace Go.Proofs.YtjplcdeaedflpaaGreatDoor.PL
open Go.Proofs Go.RowKit
set_option linter.unusedVariables false
set_option linter.unusedSimpArgs false
theorem live25 {H : List HO} {K : AV → List HO → Prop} (h : K (.bool true) H) : TS Tryz.prog 24 [] H K := TS.callW T_live25 .nil h
def colsH (l : List Rel) : List (List Int) := l.map Rel.cols
theorem colsH_get (l : List Rel) (i : Nat) : (l.getD i zR).cols = (colsH l).getD i [] := by
  unfold colsH
  rw [List.getD_eq_getElem?_getD, List.getD_eq_getElem?_getD, List.getElem?_map]
  cases l[i]? <;> simp [zR]
theorem colsH_ok {l : List Rel} (h : OkL l) : HsOk (colsH l) := ⟨by have := h.len; simp [colsH]; omega, fun c hc => by
  obtain ⟨r, hr, rfl⟩ := List.mem_map.1 hc
  have := h.nc r hr
  omega⟩
theorem T_rCols25 (l : List Rel) (hl : l.length ≤ 1000) : T Tryz.prog 37 [.sl .no (rels' l)] (.sl .no (lists' (colsH l))) := by
  refine T.introF (TS.body mix Tryz.func37 (by kernel_rfl) rfl (by kernel_rfl) (by simp) ?_)
  simp
  refine vc_loop (fun i : Nat => l.length - i) (fun i e H => e 0 = .sl .no (rels' l) ∧ e 4 = .int .i64 i ∧ i ≤ l.length ∧ Grow1 1 H (e 3) (lists' (colsH (l.take i)))) 0 ?_ ?_
  · simp
    exact .nil
  rintro i e H ⟨e0, e4, hi, hg⟩
  by_cases hlt : i < l.length
  · have ew := wrap_next hlt (by omega)
    have hnx : colsH (l.take (i + 1)) = colsH (l.take i) ++ [l[i].cols] := by unfold colsH; rw [take_next hlt, List.map_append]; rfl
    have hml : (colsH (l.take i)).length = i := by simp [colsH]; omega
    simp [e0, e4, hlt]
    rcases hg with ⟨ge, gx⟩ | ⟨t, gx, ht⟩
    · rw [avs_eq_nil] at ge
      simp [e0, e4, hlt, gx]
      refine ⟨i + 1, by omega, ew, by omega, ?_⟩
      rw [hnx]
      exact Grow1.first (f := slA (AV.int .i64)) ge rfl
    · have hw := ht
      simp only [avs_length] at hw
      simp [e0, e4, hlt, gx, hw]
      refine ⟨by omega, i + 1, by omega, ew, by omega, ?_⟩
      rw [hnx]
      exact Grow1.more (f := slA (AV.int .i64)) ht (by omega)
  · have : i = l.length := by omega
    subst this
    rw [List.take_length] at hg
    obtain ⟨own, gx⟩ := hg.own
    simp [e0, e4, gx]
    exact Frz.slN (f := slA (AV.int .i64))
theorem all_right {l : List Rel} : l.all rightR = true ↔ AllRight l := by rw [List.all_eq_true]; rfl
end Go.Proofs.YtjplcdeaedflpaaGreatDoor.PL
namespace Go.Proofs.YtjplcdeaedflpaaGreatDoor.PL
open Go.Proofs Go.RowKit
set_option linter.unusedVariables false
set_option linter.unusedSimpArgs false
/-! ### a row that is not written any more -/
inductive Fzr (i n sz : Nat) (ys : List AV) : List AV → List AV → Prop
  | nil : Fzr i n sz ys [] []
  | same {x : AV} {xs zs : List AV} (t : Fzr i n sz ys xs zs) : Fzr i n sz ys (x :: xs) (x :: zs)
  | row {xs zs : List AV} (t : Fzr i n sz ys xs zs) : Fzr i n sz ys (.mv i n sz 0 n :: xs) (.sl .no ys :: zs)
theorem Fzr.vrs {i n sz : Nat} {ys : List AV} {Γ Δ : Gh} (le : Gh.Le Γ Δ) (hr : ∀ v, VR Γ (.mv i n sz 0 n) v → VR Δ (.sl .no ys) v) {xs zs : List AV} (h : Fzr i n sz ys xs zs) : ∀ {vs : List Value}, VRs Γ xs vs → VRs Δ zs vs := by
  induction h with
  | nil => intro vs r; cases r; exact .nil
  | same t ih => intro vs r; cases r with | cons r rs => exact .cons (r.mono le) (ih rs)
  | row t ih => intro vs r; cases r with | cons r rs => exact .cons (hr _ r) (ih rs)
/-- A call that is handed a row which nobody writes any more: it is told as what stays. -/
theorem TS.freezeR {P : Program} {f : FuncId} {i n sz : Nat} {cs ys args args' : List AV} {H : List HO} {K : AV → List HO → Prop} (hi : H[i]? = some (.row n sz cs)) (hF : FrzC [] cs (ys.flatMap AV.cells)) (hl : ys.length = n) (hs : ∀ y, y ∈ ys → y.cells.length = sz) (ha : Fzr i n sz ys args args') (h : TS P f args' (H.set i .gone) K) : TS P f args H K := by
  intro w0 Γ w vs hR hv
  have hRR := hR
  obtain ⟨hglo, hbel, himm, ⟨bs, hobj, hdis⟩, hfr, hold, hrv⟩ := hR
  obtain ⟨hb0, ⟨cap, cur, e, hT, hw, hsz, _, hnc, hvs⟩, hones, hnone⟩ := hobj i _ hi rfl
  have hil := (List.getElem?_eq_some_iff.1 hi).1
  obtain ⟨Δ, hΔ⟩ : ∃ Δ : Gh, Δ = ⟨fun b o => if b = bs i then w.cell? ⟨b, o, none⟩ else Γ.I b o, Γ.B, Γ.T⟩ := ⟨_, rfl⟩
  have hcell : ∀ o, w.cell? ⟨bs i, o, none⟩ = cur[o]? := fun o => cell_in hw o
  have le : Gh.Le Γ Δ := by
    subst hΔ
    refine ⟨fun b o v hI => ?_, fun _ _ h => h, fun _ _ _ h => h⟩
    dsimp only
    split
    · exact himm _ _ _ hI
    · exact hI
  have hle : ∀ b o v, Γ.I b o = some v → Δ.I b o = some v := le.1
  have hcs : VRs Δ (ys.flatMap AV.cells) (cur.toList.take (n * sz)) :=
    (FrzC.vrsJ hRR (Hm := []) (fun i h hi => by simp at hi) hle (fun i cs b hi => by simp at hi) (fun i n sz cs b cap hi => by simp at hi) hF hvs).mono (Γ := PI Δ.I) (Δ := Δ) ⟨fun _ _ _ h => h, fun _ _ h => (by cases h), fun _ _ _ h => (by cases h)⟩
  have hr : ∀ v, VR Γ (.mv i n sz 0 n) v → VR Δ (.sl .no ys) v := by
    intro v r
    cases r with
    | @mv _ _ _ _ _ b cap' o hT' hlt hnc' ho =>
      rw [hT] at hT'
      simp only [Option.some.injEq, Prod.mk.injEq] at hT'
      obtain ⟨rfl, rfl⟩ := hT'
      rcases Nat.eq_zero_or_pos n with h0 | hpos
      · have : ys = [] := List.eq_nil_of_length_eq_zero (by omega)
        rw [this]
        subst h0
        exact .sl0 trivial
      · have ho := ho (by omega)
        subst ho
        refine .sl (sz := sz) hl.symm hs (hF.ones hones) hcs ?_ trivial (by omega)
        intro j v hv'
        rw [List.getElem?_take] at hv'
        split at hv'
        · subst hΔ
          show (if bs i = bs i then w.cell? ⟨bs i, _, none⟩ else _) = _
          rw [if_pos rfl, hcell]
          simpa using hv'
        · cases hv'
  have hget : ∀ (j : Nat) (k : HO), (H.set i .gone)[j]? = some k → k ≠ .gone → j ≠ i ∧ H[j]? = some k := by
    intro j k hj hk
    by_cases e : j = i
    · subst e
      rw [List.getElem?_set_self hil] at hj
      cases hj
      exact absurd rfl hk
    · rw [List.getElem?_set_ne (Ne.symm e)] at hj
      exact ⟨e, hj⟩
  have hR' : R w0 Δ (H.set i .gone) w := by
    refine ⟨hglo, hbel, ?_, ⟨bs, ?_, ?_⟩, ?_, ?_, ?_⟩
    · intro b o v hI
      subst hΔ
      dsimp only at hI
      split at hI
      · exact hI
      · exact himm _ _ _ hI
    · intro j k hj hl
      obtain ⟨hne, hj⟩ := hget j k hj (by rintro rfl; cases hl)
      obtain ⟨g1, g2⟩ := hobj j k hj hl
      refine ⟨g1, g2.kept le rfl (fun o ho => ?_) (fun m hm => by subst hΔ; exact hm)⟩
      subst hΔ
      show (if bs j = bs i then _ else _) = none
      rw [if_neg (hdis j i k _ hj hi hl rfl hne)]
      exact ho
    · intro j j' k k' hj hj' hl hl' hne
      obtain ⟨_, hj⟩ := hget j k hj (by rintro rfl; cases hl)
      obtain ⟨_, hj'⟩ := hget j' k' hj' (by rintro rfl; cases hl')
      exact hdis j j' k k' hj hj' hl hl' hne
    · intro j hj
      rw [List.length_set] at hj
      have := hfr j hj
      subst hΔ
      exact this
    · intro b o v hb hI
      subst hΔ
      dsimp only at hI
      split at hI
      · rename_i e; omega
      · exact hold b o v hb hI
    · intro j hj
      obtain ⟨_, hj⟩ := hget j _ hj (by simp)
      have := hrv j hj
      subst hΔ
      exact this
  refine (h w0 Δ w vs hR' (ha.vrs le hr hv)).mono ?_
  rintro e' w' ⟨Γ', v, r, H', g1, g2, g3, g4, g5⟩
  exact ⟨Γ', v, r, H', g1, le.trans g2, g3, g4, g5⟩
def oneR (l : List Rel) (i : Nat) (x : List Val) : List Rel := l.set i ⟨(l.getD i zR).cols, [x]⟩
def partG (l : List Rel) (i : Nat) (x : List Val) : Bool := decide (0 < (allJ ((oneR l i x).map heldR)).rows.length)
def fullG (l : List Rel) (i : Nat) : Rel := ⟨(l.getD i zR).cols, (l.getD i zR).rows.filter (partG l i)⟩
theorem oneR_ok {l : List Rel} (h : OkL l) {i : Nat} {x : List Val} (hx : x ∈ (l.getD i zR).rows) : OkL (oneR l i x) := by
  have hg := h.okP.getD i
  have h1 : OkR ⟨(l.getD i zR).cols, [x]⟩ := ⟨hg.1.nc, by simp, fun y hy => by
    rw [List.mem_singleton] at hy
    rw [hy]
    exact hg.1.row x hx⟩
  refine ⟨fun r hr => ?_, fun r hr => ?_, by unfold oneR; simpa using h.len, Nat.le_trans (prodR_set l i _ ?_) h.pr⟩
  · rcases List.mem_or_eq_of_mem_set hr with hr | rfl
    · exact h.ok r hr
    · exact h1
  · rcases List.mem_or_eq_of_mem_set hr with hr | rfl
    · exact h.nc r hr
    · exact hg.2
  · exact List.length_pos_of_mem hx
theorem oneR_right {l : List Rel} (h : AllRight l) {i : Nat} {x : List Val} (hx : x ∈ (l.getD i zR).rows) : AllRight (oneR l i x) := by
  have hi : rightR (l.getD i zR) = true := by
    rcases Nat.lt_or_ge i l.length with hi | hi
    · rw [getD_ltR hi]; exact h _ (List.getElem_mem hi)
    · rw [List.getD_eq_getElem?_getD, List.getElem?_eq_none hi] at hx
      simp [zR] at hx
  refine h.set (rightR_of (r := ⟨(l.getD i zR).cols, [x]⟩) (by have := rightR_rises hi; exact this) fun y hy => ?_)
  have : y = x := by simpa using hy
  rw [this]
  exact rightR_row hi hx
theorem partG_right {l : List Rel} (h : AllRight l) {i : Nat} {x : List Val} (hx : x ∈ (l.getD i zR).rows) : partG l i x = partB l i x := by
  unfold partG partB
  rw [(oneR_right h hx).map]
  rfl
theorem fullG_right {l : List Rel} (h : AllRight l) (i : Nat) : fullG l i = fullJ l i := by
  unfold fullG fullJ
  congr 1
  exact List.filter_congr fun x hx => partG_right h hx
theorem FrzC.orels {H : List HO} : ∀ (Q : List (Own × Own × Rel)), FrzC H ((avs orel Q).flatMap AV.cells) ((rels' (Q.map fun q => q.2.2)).flatMap AV.cells)
  | [] => .nil
  | q :: Q => .cons (Frz.slN (f := AV.int .i64)) (.cons (Frz.slN (f := fun r => AV.sl .no (vals' r))) (FrzC.orels Q))
theorem fullG_ok {l : List Rel} (h : OkL l) (i : Nat) : OkR (fullG l i) := by
  have hg := (h.okP.getD i).1
  exact ⟨hg.nc, Nat.le_trans (List.length_filter_le ..) hg.nr, fun x hx => hg.row x (List.mem_filter.1 hx).1⟩
theorem orel_no (l : List Rel) : avs orel (l.map fun r => (Own.no, Own.no, r)) = rels' l := by
  unfold avs
  rw [List.map_map]
  rfl
def FJ (r : Rel) (q : List Val → Bool) (k : Nat) (H : List HO) : Prop := ∃ c1 x L, c1.length = 2 ∧ H = .box c1 :: .box [.sl .no (ints' r.cols), x] :: L ∧ GrowX 2 1 L x (rows' ((r.rows.take k).filter q))
theorem T_rFull25 (l : List Rel) (i : Nat) (h : OkL l) (hi : i < l.length) (hr : rightR l[i] = true) : T Tryz.prog 39 [.sl .no (rels' l), .int .i64 i] (fullG l i).av := by
  have hlen := h.len
  have hri := h.ok _ (List.getElem_mem hi)
  have hnr := hri.nr
  have k1 := T_rright24 l[i] hri
  rw [hr] at k1
  have hall := fun x hx => T_rall24 (oneR l i x) (oneR_ok h (i := i) (x := x) hx)
  unfold fullG
  rw [getD_ltR hi] at *
  obtain ⟨q, hq⟩ : ∃ q, q = partG l i := ⟨_, rfl⟩
  rw [← hq]
  have hneg : ¬ (i : Int) < 0 := by omega
  have hge : ¬ (l.length : Int) ≤ i := by omega
  have hge2 : ¬ l.length ≤ i := by omega
  obtain ⟨r, hrr⟩ : ∃ r, r = l[i] := ⟨_, rfl⟩
  rw [← hrr] at hnr hri k1 hall ⊢
  refine T.introF (TS.bodyM [43] mix Tryz.func39 (by kernel_rfl) rfl (by kernel_rfl) (by simp) ?_)
  simp [hneg, hge, hge2, hi, ← hrr]
  refine GTK.callW (fun _ => ⟨k1, Dws.self (by simp)⟩) ?_
  simp [hneg, hge, hge2, hi, ← hrr]
  refine vc_loop (fun k : Nat => r.rows.length - k) (fun k e H => e 0 = .sl .no (rels' l) ∧ e 1 = .int .i64 i ∧ e 4 = .ptr 0 0 ∧ e 5 = .ptr 1 0 ∧ e 6 = .int .i64 k ∧ k ≤ r.rows.length ∧ FJ r q k H) 0 ?_ ?_
  · simp
    exact ⟨_, _, _, rfl, rfl, .inl ⟨by simp, .inr rfl⟩⟩
  rintro k e H ⟨e0, e1, e4, e5, e6, hk, c1, x, L, hc1, rfl, hg⟩
  by_cases hlt : k < r.rows.length
  · have ew := wrap_next hlt (by omega)
    have hxm := List.getElem_mem hlt
    have hnx := filter_nextR (q := q) hlt
    have hfl : ((r.rows.take k).filter q).length ≤ k := Nat.le_trans (List.length_filter_le ..) (by simp; omega)
    obtain ⟨y, hy⟩ : ∃ y, y = r.rows[k] := ⟨_, rfl⟩
    rw [← hy] at hxm hnx
    have ka := hall y hxm
    have hqy : q y = decide (0 < (allJ ((oneR l i y).map heldR)).rows.length) := by rw [hq]; rfl
    have hao := (oneR_ok h (i := i) (x := y) (by rw [getD_ltR hi, ← hrr]; exact hxm)).held.all
    obtain ⟨A, hA⟩ : ∃ A, A = allJ ((oneR l i y).map heldR) := ⟨_, rfl⟩
    rw [← hA] at ka hqy hao
    have hl0 : ¬ l = [] := fun e => by rw [e] at hi; cases hi
    have hml := flatA_len (f := Rel.av) (sz := 2) l
    have hml0 := hml
    rw [List.length_flatMap] at hml
    obtain ⟨Q, hQ⟩ : ∃ Q, Q = (l.map fun r => (Own.no, Own.no, r)).set i (Own.no, Own.exact, ⟨r.cols, [y]⟩) := ⟨_, rfl⟩
    have hQ2 : Q.map (fun q => q.2.2) = oneR l i y := by
      rw [hQ, List.map_set, List.map_map]
      unfold oneR
      rw [getD_ltR hi, ← hrr]
      congr 1
      exact List.map_id _
    have hQl : Q.length = l.length := by rw [hQ]; simp
    have hput : ((rels' l).flatMap AV.cells).take (i * 2) ++ .sl .no (ints' r.cols) :: .sl .exact [.sl .no (vals' y)] :: ((rels' l).flatMap AV.cells).drop (i * 2 + 2) = (avs orel Q).flatMap AV.cells := by
      have := flatA_put (f := orel) (sz := 2) (l.map fun r => (Own.no, Own.no, r)) (i := i) (by simpa using hi) (k := 0) (new := [.sl .no (ints' r.cols), .sl .exact [.sl .no (vals' y)]]) (a := (Own.no, Own.exact, ⟨r.cols, [y]⟩)) (by simp) (by simp)
      rw [orel_no, ← hQ] at this
      exact this
    have hfr : ∀ H : List HO, FrzC H ((((avs orel Q).flatMap AV.cells).drop (0 * 2)).take (l.length * 2)) ((rels' (oneR l i y)).flatMap AV.cells) := fun H => by
      rw [Nat.zero_mul, List.drop_zero, List.take_of_length_le (by rw [flatA_len (f := orel) (sz := 2), hQl]; exact Nat.le_refl _), ← hQ2]
      exact FrzC.orels Q
    simp [e0, e1, e4, e5, e6, hlt, hi, hl0, ← hrr, ← hy]
    refine ⟨⟨by omega, by omega⟩, by rw [hml]; omega, ?_⟩
    rw [hput]
    refine TS.freezeR (i := L.length + 1 + 1) (n := l.length) (sz := 2) (ys := rels' (oneR l i y)) (cs := (avs orel Q).flatMap AV.cells) (args' := [.sl .no (rels' (oneR l i y))]) (by simp) ?_ ?_ ?_ (.row .nil) ?_
    · rw [← hQ2]; exact FrzC.orels Q
    · simp [oneR]
    · intro z hz
      obtain ⟨a, _, rfl⟩ := mem_avs.1 hz
      rfl
    have hset : ((HO.box c1 :: HO.box [.sl Own.no (ints' r.cols), x] :: (L ++ [HO.row l.length 2 (List.flatMap AV.cells (avs orel Q))])).set (L.length + 1 + 1) .gone) = HO.box c1 :: HO.box [.sl Own.no (ints' r.cols), x] :: (L ++ [.gone]) := by simp
    rw [hset]
    refine TS.call' ka (by simp) ?_
    cases hc : q y with
    | true =>
      rw [hc] at hqy
      have hp : 0 < A.rows.length := by simpa using hqy.symm
      rw [hc, if_pos rfl] at hnx
      rcases hg with ⟨ge, zx⟩ | ⟨t, rfl, ht⟩
      · rw [avs_eq_nil] at ge
        have ex := GrowX.ex0 zx
        simp [e0, e1, e4, e5, e6, hlt, hi, hl0, ← hrr, ← hy, hp, ex]
        refine ⟨k + 1, by omega, ew, by omega, c1, _, _, hc1, rfl, ?_⟩
        rw [hnx]
        have := GrowX.first (f := rowA) (l := (r.rows.take k).filter q) (a := y) (q := 2) (sz := 1) (J := L ++ [HO.gone]) (k := L.length + 1 + 1 + 1) ge (by simp)
        rw [List.append_assoc] at this
        exact this
      · have htl := (List.getElem?_eq_some_iff.1 ht).1
        have hw : ∀ Y : List HO, (L ++ Y)[t]? = some (.spare ((r.rows.take k).filter q).length 1) := fun Y => by rw [List.getElem?_append_left htl]; simpa using ht
        simp [e0, e1, e4, e5, e6, hlt, hi, hl0, ← hrr, ← hy, hp, hw]
        refine ⟨by omega, k + 1, by omega, ew, by omega, c1, _, _, hc1, rfl, ?_⟩
        rw [hnx]
        exact GrowX.more (f := rowA) (l := (r.rows.take k).filter q) (a := y) (q := 2) (sz := 1) (J := L ++ [HO.gone]) (by rw [List.getElem?_append_left htl]; exact ht) rfl
    | false =>
      rw [hc] at hqy
      have hp : ¬ 0 < A.rows.length := by simpa using hqy.symm
      rw [hc, if_neg (by simp), List.append_nil] at hnx
      simp [e0, e1, e4, e5, e6, hlt, hi, hl0, ← hrr, ← hy, hp]
      refine ⟨k + 1, by omega, ew, by omega, c1, _, _, hc1, rfl, ?_⟩
      rw [hnx]
      exact hg.app
  · have : k = r.rows.length := by omega
    subst this
    rw [List.take_length] at hg
    obtain ⟨own, rfl⟩ := hg.own
    match c1, hc1 with
    | [u0, u1], _ =>
    simp [e0, e1, e4, e5, e6, hi, ← hrr]
    exact .agg (.cons (Frz.slN (f := AV.int .i64)) (.cons (Frz.slN (f := fun r => AV.sl .no (vals' r))) .nil))
end Go.Proofs.YtjplcdeaedflpaaGreatDoor.PL
