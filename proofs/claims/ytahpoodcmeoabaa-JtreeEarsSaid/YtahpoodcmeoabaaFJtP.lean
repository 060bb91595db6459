/- Trees by their parents, in plain words: the same nodes are beside one another whatever the root; what is connected is on each way. -/
import Derived.Test.YtahpoodcmeoabaaFJt7
namespace Go.Proofs.Ytahpoodcmeoabaa.PL
open Go.Proofs
set_option linter.unusedVariables false
set_option linter.unusedSimpArgs false
/-- a walk within some nodes -/
inductive Wk (N : Nat → Nat → Prop) (X : Nat → Prop) : Nat → Nat → Prop
  | refl {a : Nat} (h : X a) : Wk N X a a
  | step {a b c : Nat} (h : X a) (e : N a b) (t : Wk N X b c) : Wk N X a c
theorem Wk.head {N : Nat → Nat → Prop} {X : Nat → Prop} {a b : Nat} (h : Wk N X a b) : X a := by cases h <;> assumption
theorem Wk.last {N : Nat → Nat → Prop} {X : Nat → Prop} {a b : Nat} (h : Wk N X a b) : X b := by
  induction h with
  | refl h => exact h
  | step h e t ih => exact ih
theorem Wk.trans {N : Nat → Nat → Prop} {X : Nat → Prop} {a b c : Nat} (h : Wk N X a b) (k : Wk N X b c) : Wk N X a c := by
  induction h with
  | refl h => exact k
  | step h e t ih => exact .step h e (ih k)
theorem Wk.symm {N : Nat → Nat → Prop} (hs : ∀ a b, N a b → N b a) {X : Nat → Prop} {a b : Nat} (h : Wk N X a b) : Wk N X b a := by
  induction h with
  | refl h => exact .refl h
  | step h e t ih => exact ih.trans (.step t.head (hs _ _ e) (.refl h))
theorem Wk.congr {N M : Nat → Nat → Prop} (hs : ∀ a b, N a b → M a b) {X : Nat → Prop} {a b : Nat} (h : Wk N X a b) : Wk M X a b := by
  induction h with
  | refl h => exact .refl h
  | step h e t ih => exact .step h (hs _ _ e) ih
/-- beside one another -/
def nbr (f : Nat → Option Nat) (a b : Nat) : Prop := f a = some b ∨ f b = some a
theorem nbr_symm {f : Nat → Option Nat} (a b : Nat) (h : nbr f a b) : nbr f b a := h.symm
/-- who leaves what hangs below a node passes it, and its parent -/
theorem Wk.exit {f : Nat → Option Nat} {X : Nat → Prop} {c : Nat} {a b : Nat} (h : Wk (nbr f) X a b) : ∀ {A B : List Nat}, Gy.Up f a A → Gy.Up f b B → c ∈ A → c ∉ B → X c ∧ ∃ p, f c = some p ∧ X p := by
  induction h with
  | refl h =>
    intro A B hA hB h1 h2
    rw [hA.uniq hB] at h1
    exact absurd h1 h2
  | @step a d b h e t ih =>
    intro A B hA hB h1 h2
    rcases e with e | e
    · cases hA with
      | root hf => rw [hf] at e; cases e
      | @step _ p U hf hU =>
        rw [hf] at e
        cases e
        rcases List.mem_cons.1 h1 with rfl | h1
        · by_cases hd : c ∈ U
          · exact ih hU hB hd h2
          · exact ⟨h, d, hf, t.head⟩
        · exact ih hU hB h1 h2
    · exact ih (.step e hA) hB (List.mem_cons_of_mem _ h1) h2
theorem Wk.climb {f : Nat → Option Nat} {X : Nat → Prop} : ∀ {P : List Nat} {a m : Nat} {R : List Nat}, Gy.Up f a (P ++ m :: R) → (∀ x, x ∈ P → X x) → X m → Wk (nbr f) X a m
  | [], a, m, R, h, hP, hm => by
    obtain ⟨U, e⟩ := h.head
    simp at e
    rw [← e.1]
    exact .refl hm
  | c :: P, a, m, R, h, hP, hm => by
    obtain ⟨U, e⟩ := h.head
    have e1 : c = a := by simp at e; exact e.1
    subst e1
    generalize hl : c :: P ++ m :: R = L at h
    cases h with
    | root hf => simp at hl
    | @step _ p U hf hU =>
      simp at hl
      subst hl
      exact .step (hP _ (by simp)) (.inl hf) (Wk.climb hU (fun x hx => hP x (by simp [hx])) hm)
/-- two ways up, to where they meet -/
structure TwoW (f : Nat → Option Nat) (a b : Nat) (P1 P2 : List Nat) (m : Nat) (R : List Nat) : Prop where
  u1 : Gy.Up f a (P1 ++ m :: R)
  u2 : Gy.Up f b (P2 ++ m :: R)
  d : ∀ x, x ∈ P1 → x ∉ P2 ++ m :: R
/-- all on the way have what both ends have, just if what has it hangs together -/
theorem TwoW.conn {f : Nat → Option Nat} {X : Nat → Prop} {a b m : Nat} {P1 P2 R : List Nat} (h : TwoW f a b P1 P2 m R) : (∀ k, k ∈ P1 ++ (m :: P2.reverse) → X k) ↔ Wk (nbr f) X a b := by
  constructor
  · intro hX
    exact (Wk.climb h.u1 (fun x hx => hX x (by simp [hx])) (hX m (by simp))).trans ((Wk.climb h.u2 (fun x hx => hX x (by simp [hx])) (hX m (by simp))).symm nbr_symm)
  · intro hw k hk
    have n1 := h.u1.nodup
    have n2 := h.u2.nodup
    rw [List.mem_append, List.mem_cons, List.mem_reverse] at hk
    rcases hk with hk | rfl | hk
    · exact (hw.exit h.u1 h.u2 (List.mem_append_left _ hk) (h.d k hk)).1
    · rcases List.eq_nil_or_concat P1 with e | ⟨P, c, e⟩
      · subst e
        obtain ⟨U, e⟩ := h.u1.head
        simp at e
        rw [e.1]
        exact hw.head
      · subst e
        have hc : c ∈ P.concat c := by simp
        obtain ⟨p, hp, hpx⟩ := (hw.exit h.u1 h.u2 (List.mem_append_left _ hc) (h.d c hc)).2
        have : ∀ {Q : List Nat} {x : Nat}, Gy.Up f x (Q ++ c :: k :: R) → f c = some k := by
          intro Q
          induction Q with
          | nil =>
            intro x hx
            cases hx with
            | step hf hU =>
              obtain ⟨U, e⟩ := hU.head
              simp at e
              rw [e.1]; exact hf
          | cons q Q ih =>
            intro x hx
            generalize hl : q :: Q ++ c :: k :: R = L at hx
            cases hx with
            | root hf => simp at hl
            | step hf hU => simp at hl; obtain ⟨_, rfl⟩ := hl; exact ih hU
        have h3 : f c = some k := this (Q := P) (x := a) (by have := h.u1; simpa using this)
        rw [h3] at hp
        cases hp
        exact hpx
    · have h1 : k ∉ P1 ++ m :: R := by
        intro hm
        rw [List.mem_append] at hm
        rcases hm with hm | hm
        · exact h.d k hm (List.mem_append_left _ hk)
        · rw [List.nodup_append] at n2
          exact n2.2.2 _ hk _ hm rfl
      exact ((hw.symm nbr_symm).exit h.u2 h.u1 (List.mem_append_left _ hk) h1).1
theorem path_two {q : List Int} (htr : treeI q = true) {i j : Nat} (hi : i < q.length) (hj : j < q.length) : ∃ P1 P2 m R, TwoW (fOf q) i j P1 P2 m R ∧ pathQ (upI q i) (upI q j) = nI (P1 ++ m :: P2.reverse) ∧ ∀ x, x ∈ P1 ++ m :: P2.reverse → x < q.length := by
  have ht := tree_ok htr
  obtain ⟨r, hr, hroot⟩ := tree_root htr (by omega)
  obtain ⟨U, u1, u2, u3⟩ := ht i hi
  obtain ⟨W, w1, w2, w3⟩ := ht j hj
  have hrU := hroot i hi
  have hrW := hroot j hj
  obtain ⟨A, c, R, h1, h2, h3, h4, h5⟩ := find_split (p := fun v => decide (v ∈ upI (q) j)) (l := upI (q) i) ⟨r, hrU, by simpa using hrW⟩
  have hcW : c ∈ upI (q) j := by simpa using h2
  have hcU : c ∈ upI (q) i := by rw [h1]; simp
  rw [w3] at hcW
  obtain ⟨k, hk, rfl⟩ := List.mem_map.1 hcW
  have hkU : k ∈ U := by rw [u3] at hcU; exact mem_nI.1 hcU
  obtain ⟨P1, R1, p1, p2⟩ := u1.split hkU
  obtain ⟨P2, R2, q1, q2⟩ := w1.split hk
  have e12 := p2.uniq q2
  simp only [List.cons.injEq, true_and] at e12
  subst e12
  have nU := u1.nodup
  have nW := w1.nodup
  have hx : upI (q) i = nI P1 ++ (k : Int) :: nI R1 := by rw [u3, p1]; simp [nI]
  have hy : upI (q) j = nI P2 ++ (k : Int) :: nI R1 := by rw [w3, q1]; simp [nI]
  have ndx : (nI P1 ++ (k : Int) :: nI R1).Nodup := by
    rw [← hx, u3]
    exact List.Pairwise.map _ (fun a b h => by omega) nU
  have ndy : (nI P2 ++ (k : Int) :: nI R1).Nodup := by
    rw [← hy, w3]
    exact List.Pairwise.map _ (fun a b h => by omega) nW
  rw [hx] at h1 h4 h5 ⊢
  rw [hy] at h3 h4 h5 ⊢
  have hA : A = nI P1 := by
    have hnk : (k : Int) ∉ nI P1 := fun h => by
      rw [List.nodup_append] at ndx
      exact ndx.2.2 _ h _ (List.mem_cons_self ..) rfl
    have hnA : (k : Int) ∉ A := fun h => by
      have := h3 _ h
      simp at this
    exact (List.append_inj_left' (s₁ := A) (s₂ := nI P1) (t₁ := (k : Int) :: R) (t₂ := (k : Int) :: nI R1) h1.symm (by
      have : ∀ (l m : List Int) (x : Int) (s t : List Int), l ++ x :: s = m ++ x :: t → x ∉ l → x ∉ m → s.length = t.length := by
        intro l
        induction l with
        | nil =>
          intro m x s t he _ hm
          cases m with
          | nil => simp at he; rw [he]
          | cons y m => simp at he; exact absurd he.1 (fun e => hm (by rw [e]; simp))
        | cons z l ih =>
          intro m x s t he hl hm
          cases m with
          | nil => simp at he; exact absurd he.1 (fun e => hl (by rw [← e]; simp))
          | cons y m =>
            simp at he hl hm
            exact ih m x s t he.2 hl.2 hm.2
      simpa using this A (nI P1) k R (nI R1) h1.symm hnA hnk))
  subst hA
  unfold pathQ
  rw [h4]
  dsimp only
  have g1 : (nI P1 ++ (k : Int) :: nI R1).getD (nI P1).length 0 = (k : Int) := by simp
  have g2 : (nI P2 ++ (k : Int) :: nI R1).findIdx (fun v => decide (v = (k : Int))) = (nI P2).length := by
    rw [List.findIdx_append]
    have : ∀ l : List Int, (k : Int) ∉ l → l.findIdx (fun v => decide (v = (k : Int))) = l.length := by
      intro l hl
      rw [List.findIdx_eq_length]
      intro x hx
      have : x ≠ (k : Int) := fun e => hl (e ▸ hx)
      simpa using this
    have hn2 : (k : Int) ∉ nI P2 := fun h => by
      rw [List.nodup_append] at ndy
      exact ndy.2.2 _ h _ (List.mem_cons_self ..) rfl
    rw [this _ hn2, List.findIdx_cons]
    simp
  rw [g1, g2]
  have t1 : (nI P1 ++ (k : Int) :: nI R1).take ((nI P1).length + 1) = nI P1 ++ [(k : Int)] := by rw [List.take_append, List.take_of_length_le (by omega)]; simp
  have t2 : (nI P2 ++ (k : Int) :: nI R1).take (nI P2).length = nI P2 := by rw [List.take_append, List.take_of_length_le (by omega)]; simp
  rw [t1, t2]
  refine ⟨P1, P2, k, R1, ⟨p1 ▸ u1, q1 ▸ w1, fun x hx hm => ?_⟩, by simp [nI], fun x hx => ?_⟩
  · have := h3 (x : Int) (mem_nI.2 hx)
    simp only [decide_eq_false_iff_not] at this
    apply this
    rw [List.mem_append, List.mem_cons] at hm ⊢
    rcases hm with hm | hm | hm
    · exact .inl (mem_nI.2 hm)
    · exact .inr (.inl (by rw [hm]))
    · exact .inr (.inr (mem_nI.2 hm))
  · rw [List.mem_append, List.mem_cons, List.mem_reverse] at hx
    rcases hx with hx | rfl | hx
    · exact u2 x (by rw [p1]; simp [hx])
    · exact u2 x (by rw [p1]; simp)
    · exact w2 x (by rw [q1]; simp [hx])
/-- is a tree a join tree, asked by ways -/
def checkP (h : List (List Int)) (q : List Int) : Prop := ∀ a b : Nat, a < q.length → b < a → ∀ x, x ∈ pathQ (upI q a) (upI q b) → withinI (sharedI (h.getD a []) (h.getD b [])) (h.getD x.toNat []) = true
theorem check_conn {h : List (List Int)} {q : List Int} (htr : treeI q = true) (hl : q.length = h.length) : checkP h q ↔ ∀ v a b, vx h a v → vx h b v → Wk (nbr (fOf q)) (fun k => vx h k v) a b := by
  constructor
  · intro hc v a b ha hb
    have key : ∀ a b : Nat, b < a → vx h a v → vx h b v → Wk (nbr (fOf q)) (fun k => vx h k v) a b := by
      intro a b hab ha hb
      obtain ⟨P1, P2, m, R, h1, h2, h3⟩ := path_two htr (i := a) (j := b) (by have := vx_lt ha; omega) (by have := vx_lt hb; omega)
      refine h1.conn.1 fun k hk => ?_
      have := hc a b (by have := vx_lt ha; omega) hab (k : Int) (by rw [h2]; exact mem_nI.2 hk)
      exact withinI_iff.1 this v (sharedI_mem.2 ⟨ha, hb⟩)
    rcases Nat.lt_trichotomy a b with h1 | h1 | h1
    · exact (key b a h1 hb ha).symm nbr_symm
    · subst h1; exact .refl ha
    · exact key a b h1 ha hb
  · intro hw a b ha hb x hx
    obtain ⟨P1, P2, m, R, h1, h2, h3⟩ := path_two htr (i := a) (j := b) ha (by omega)
    rw [h2] at hx
    obtain ⟨k, hk, rfl⟩ := List.mem_map.1 hx
    rw [withinI_iff]
    intro v hv
    obtain ⟨v1, v2⟩ := sharedI_mem.1 hv
    exact h1.conn.2 (hw v a b v1 v2) k hk
/-! ### another root -/
theorem rerF_not {q l : List Int} {x : Nat} : ∀ {i : Nat}, i ≤ l.length → (∀ y, y ∈ l → 0 ≤ y) → (x : Int) ∉ l → (rerF q l i)[x]? = q[x]?
  | 0, _, _, _ => rfl
  | i + 1, hi, hg, hx => by
    have hil : i < l.length := by omega
    have e : l.getD i 0 = l[i] := by simp [hil]
    rw [rerF, e, List.getElem?_set_ne, rerF_not (by omega) hg hx]
    intro h
    have := hg _ (List.getElem_mem hil)
    exact hx (by rw [show (x : Int) = l[i] by omega]; exact List.getElem_mem hil)
theorem rerF_at {q l : List Int} (hnd : l.Nodup) (hg : ∀ y, y ∈ l → 0 ≤ y ∧ y < q.length) : ∀ {i j : Nat}, i ≤ l.length → (hj : j < i) → (hjl : j < l.length) → (rerF q l i)[(l[j]).toNat]? = some (if j = 0 then -1 else l.getD (j - 1) 0)
  | 0, j, _, hj, _ => by omega
  | i + 1, j, hi, hj, hjl => by
    have hil : i < l.length := by omega
    have e : l.getD i 0 = l[i] := by simp [hil]
    rw [rerF, e]
    by_cases c : j = i
    · subst c
      rw [List.getElem?_set_self]
      rw [rerF_len]
      have := hg _ (List.getElem_mem hil)
      omega
    · rw [List.getElem?_set_ne, rerF_at hnd hg (by omega) (by omega) hjl]
      intro h
      have h1 := hg _ (List.getElem_mem hil)
      have h2 := hg _ (List.getElem_mem hjl)
      have h3 : l[i] = l[j] := by omega
      exact c ((List.getElem_inj hnd).1 h3).symm
/-- a list of parents is a tree if each way ends, and one of them is a root -/
theorem tree_of {ps : List Int} {r : Nat} (hr : r < ps.length) (hr2 : ∀ i (hi : i < ps.length), ps[i] = -1 ↔ i = r) (hge : ∀ x, x < ps.length → -1 ≤ ps.getD x (-1)) (hup : ∀ i, i < ps.length → ∃ U, Gy.Up (fOf ps) i U ∧ ∀ x, x ∈ U → x < ps.length) : treeI ps = true := by
  have htree : TreeOk ps := by
    intro i hi
    obtain ⟨U, h1, h4⟩ := hup i hi
    exact ⟨U, h1, h4, up_upF h1 h4 (fun x hx => hge x (h4 x hx)) ps.length (nat_nodup_le h1.nodup h4)⟩
  have last : ∀ {i : Nat} {U : List Nat}, Gy.Up (fOf ps) i U → (∀ x, x ∈ U → x < ps.length) → ∃ q, U.getLast? = some q ∧ ps[q]? = some (-1) := by
    intro i U hU
    induction hU with
    | @root q hq =>
      intro hx
      refine ⟨q, rfl, ?_⟩
      have hql : q < ps.length := hx q (by simp)
      unfold fOf at hq
      split at hq
      · rename_i e
        rw [List.getD_eq_getElem?_getD] at e
        rw [List.getElem?_eq_getElem hql] at e ⊢
        simpa using e
      · cases hq
    | @step i p U hp ht ih =>
      intro hx
      obtain ⟨q, h1, h2⟩ := ih fun x h => hx x (List.mem_cons_of_mem _ h)
      exact ⟨q, by rw [List.getLast?_cons_of_ne_nil (by rintro rfl; cases h1)]; exact h1, h2⟩
  unfold treeI
  rw [all_range, Bool.true_and, Bool.or_eq_true, decide_eq_true_iff, decide_eq_true_iff]
  · exact .inr (count_one hr hr2)
  · intro j hj
    obtain ⟨U, h1, h2, h3⟩ := htree j hj
    obtain ⟨q, q1, q2⟩ := last h1 h2
    unfold endOk
    rw [h3]
    have : (nI U).getLast? = some (q : Int) := by unfold nI; rw [List.getLast?_map, q1]; rfl
    rw [this]
    simp [q2]
structure Rer (ps q : List Int) (r : Nat) : Prop where
  len : q.length = ps.length
  tree : treeI q = true
  root : ∀ i (hi : i < q.length), q[i] = -1 ↔ i = r
  same : ∀ a b, a < ps.length → b < ps.length → (nbr (fOf q) a b ↔ nbr (fOf ps) a b)
theorem fOf_some {q : List Int} {i p : Nat} (h : q[i]? = some (p : Int)) : fOf q i = some p := by
  unfold fOf
  rw [List.getD_eq_getElem?_getD, h]
  have : ¬ (p : Int) = -1 := by omega
  simp [this]
theorem fOf_none {q : List Int} {i : Nat} (h : q[i]? = some (-1)) : fOf q i = none := by
  unfold fOf
  rw [List.getD_eq_getElem?_getD, h]
  rfl
theorem fOf_congr {q ps : List Int} {i : Nat} (h : q[i]? = ps[i]?) : fOf q i = fOf ps i := by
  unfold fOf
  rw [List.getD_eq_getElem?_getD, List.getD_eq_getElem?_getD, h]
theorem rer_ok {ps : List Int} {r : Nat} (htr : treeI ps = true) (hr : r < ps.length) : Rer ps (rerootI ps r) r := by
  have ht := tree_ok htr
  obtain ⟨U, u1, u2, u3⟩ := ht r hr
  obtain ⟨o, ho, hroot⟩ := tree_root htr (by omega)
  have hoU : o ∈ U := by have := hroot r hr; rw [u3] at this; exact mem_nI.1 this
  have nU := u1.nodup
  have nI_nd : (nI U).Nodup := List.Pairwise.map _ (fun a b h => by omega) nU
  have hg : ∀ y, y ∈ nI U → 0 ≤ y ∧ y < ps.length := fun y hy => by
    obtain ⟨k, hk, rfl⟩ := List.mem_map.1 hy
    have := u2 k hk
    omega
  have hq : rerootI ps r = rerF ps (nI U) (nI U).length := by unfold rerootI; rw [u3]
  have hlen : (rerootI ps r).length = ps.length := by rw [hq, rerF_len]
  have hUl : (nI U).length = U.length := by simp [nI]
  have hnot : ∀ x : Nat, x ∉ U → (rerootI ps r)[x]? = ps[x]? := fun x hx => by
    rw [hq]
    exact rerF_not (Nat.le_refl _) (fun y hy => (hg y hy).1) fun h => hx (mem_nI.1 h)
  have hat : ∀ j (hj : j < U.length), (rerootI ps r)[U[j]]? = some (if j = 0 then -1 else ((U.getD (j - 1) 0 : Nat) : Int)) := fun j hj => by
    have := rerF_at (q := ps) nI_nd hg (i := (nI U).length) (j := j) (Nat.le_refl _) (by omega) (by omega)
    rw [← hq] at this
    have e1 : (nI U)[j]'(by omega) = (U[j] : Int) := by simp [nI]
    rw [e1] at this
    have e2 : ((U[j] : Nat) : Int).toNat = U[j] := by omega
    rw [e2] at this
    rw [this]
    congr 1
    split
    · rfl
    · rename_i h0
      have hj1 : j - 1 < U.length := by omega
      simp [nI, hj1]
  generalize rerootI ps r = q at *
  obtain ⟨U', hU'⟩ := u1.head
  have h0 : ∀ h : 0 < U.length, U[0] = r := fun h => by simp [hU']
  have hUp : 0 < U.length := by rw [hU']; simp
  have fU0 : fOf q r = none := fOf_none (by have := hat 0 hUp; rw [h0 hUp] at this; simpa using this)
  have fUs : ∀ j (hj : j + 1 < U.length), fOf q U[j + 1] = some (U[j]'(by omega)) := fun j hj => by
    refine fOf_some ?_
    have := hat (j + 1) hj
    rw [if_neg (by omega)] at this
    rw [this]
    have hj1 : j < U.length := by omega
    simp [hj1]
  have fN : ∀ x, x ∉ U → fOf q x = fOf ps x := fun x hx => fOf_congr (hnot x hx)
  -- the way up, turned
  have fpU : ∀ {i : Nat} {W : List Nat}, Gy.Up (fOf ps) i W → ∀ j (hj : j + 1 < W.length), fOf ps (W[j]'(by omega)) = some W[j + 1] := by
    intro i W hW
    induction hW with
    | root h => intro j hj; simp at hj
    | @step i p W h t ih =>
      intro j hj
      cases j with
      | zero =>
        obtain ⟨W', e⟩ := t.head
        subst e
        simpa using h
      | succ j => exact ih j (by simpa using hj)
  have upU : ∀ j (hj : j < U.length), ∃ W, Gy.Up (fOf q) U[j] W ∧ ∀ x, x ∈ W → x < q.length := by
    intro j
    induction j with
    | zero =>
      intro hj
      rw [h0 hj]
      exact ⟨[r], .root fU0, fun x hx => by simp at hx; omega⟩
    | succ j ih =>
      intro hj
      obtain ⟨W, w1, w2⟩ := ih (by omega)
      refine ⟨U[j + 1] :: W, .step (fUs j hj) w1, fun x hx => ?_⟩
      rcases List.mem_cons.1 hx with rfl | hx
      · rw [hlen]; exact u2 _ (List.getElem_mem hj)
      · exact w2 x hx
  have upI' : ∀ i, i < q.length → ∃ W, Gy.Up (fOf q) i W ∧ ∀ x, x ∈ W → x < q.length := by
    intro i hi
    obtain ⟨W, w1, w2, w3⟩ := ht i (by omega)
    have hoW : o ∈ W := by have := hroot i (by omega); rw [w3] at this; exact mem_nI.1 this
    clear w3 hi
    induction w1 with
    | @root x h =>
      have : x = o := by simp at hoW; exact hoW.symm
      subst this
      obtain ⟨j, hj, e⟩ := List.getElem_of_mem hoU
      rw [← e]; exact upU j hj
    | @step x p W h t ih =>
      by_cases hx : x ∈ U
      · obtain ⟨j, hj, e⟩ := List.getElem_of_mem hx
        rw [← e]; exact upU j hj
      · have hoW' : o ∈ W := by
          rcases List.mem_cons.1 hoW with e | h
          · exact absurd (e ▸ hoU) hx
          · exact h
        obtain ⟨W2, g1, g2⟩ := ih (fun y hy => w2 y (List.mem_cons_of_mem _ hy)) hoW'
        refine ⟨x :: W2, .step (by rw [fN x hx]; exact h) g1, fun y hy => ?_⟩
        rcases List.mem_cons.1 hy with rfl | hy
        · rw [hlen]; exact w2 _ (by simp)
        · exact g2 y hy
  -- one root
  have hone : ∀ i (hi : i < ps.length), ps[i] = -1 → i ∈ U := by
    intro i hi e
    have h1 := hroot i hi
    obtain ⟨W, w1, w2, w3⟩ := ht i hi
    rw [w3] at h1
    have h2 := mem_nI.1 h1
    have hf : fOf ps i = none := fOf_none (by rw [List.getElem?_eq_getElem hi, e])
    rw [w1.uniq (.root hf)] at h2
    simp at h2
    rw [← h2]; exact hoU
  have hroot2 : ∀ i (hi : i < q.length), q[i] = -1 ↔ i = r := by
    intro i hi
    constructor
    · intro e
      by_cases hx : i ∈ U
      · obtain ⟨j, hj, e2⟩ := List.getElem_of_mem hx
        have := hat j hj
        rw [e2, List.getElem?_eq_getElem hi, e] at this
        by_cases c : j = 0
        · subst c; rw [← e2, h0]
        · rw [if_neg c] at this
          simp at this
      · have h1 := hnot i hx
        rw [List.getElem?_eq_getElem hi, List.getElem?_eq_getElem (by omega), e] at h1
        exact absurd (hone i (by omega) (by simpa using h1.symm)) hx
    · rintro rfl
      have := hat 0 hUp
      rw [h0 hUp, List.getElem?_eq_getElem hi] at this
      simpa using this
  have hge : ∀ x, x < q.length → -1 ≤ q.getD x (-1) := by
    intro x hx
    rw [List.getD_eq_getElem?_getD]
    by_cases hxU : x ∈ U
    · obtain ⟨j, hj, e2⟩ := List.getElem_of_mem hxU
      have := hat j hj
      rw [e2] at this
      rw [this]
      simp only [Option.getD_some]
      split <;> omega
    · rw [hnot x hxU, List.getElem?_eq_getElem (by omega)]
      have := tree_par htr (i := x) (by omega)
      simp only [Option.getD_some]
      omega
  refine ⟨hlen, tree_of (by omega) hroot2 hge upI', hroot2, fun a b ha hb => ?_⟩
  have dir : ∀ a b, fOf q a = some b → nbr (fOf ps) a b := by
    intro a b h
    by_cases hx : a ∈ U
    · obtain ⟨j, hj, e⟩ := List.getElem_of_mem hx
      cases j with
      | zero => rw [← e, h0 hj, fU0] at h; cases h
      | succ j =>
        rw [← e, fUs j hj] at h
        cases h
        exact .inr (by rw [fpU u1 j hj, e])
    · rw [fN a hx] at h; exact .inl h
  have rid : ∀ a b, fOf ps a = some b → nbr (fOf q) a b := by
    intro a b h
    by_cases hx : a ∈ U
    · obtain ⟨j, hj, e⟩ := List.getElem_of_mem hx
      by_cases hj2 : j + 1 < U.length
      · have h2 := fpU u1 j hj2
        rw [e, h] at h2
        cases h2
        exact .inr (by rw [fUs j hj2, e])
      · -- the last one is the root
        have : ∀ {i : Nat} {W : List Nat}, Gy.Up (fOf ps) i W → ∀ k (hk : k < W.length), ¬ k + 1 < W.length → fOf ps W[k] = none := by
          intro i W hW
          induction hW with
          | root h => intro k hk _; simp at hk; subst hk; exact h
          | @step i p W h t ih =>
            intro k hk hn
            cases k with
            | zero =>
              obtain ⟨W', e⟩ := t.head
              subst e
              simp at hn
            | succ k => exact ih k (by simpa using hk) (by simpa using hn)
        have h2 := this u1 j hj hj2
        rw [e, h] at h2
        cases h2
    · rw [← fN a hx] at h; exact .inl h
  constructor
  · rintro (h | h)
    · exact dir a b h
    · exact (dir b a h).symm
  · rintro (h | h)
    · exact rid a b h
    · exact (rid b a h).symm
end Go.Proofs.Ytahpoodcmeoabaa.PL
