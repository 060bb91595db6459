/- Contracts of functions of the program, and plain laws (part 4): Ears of hypergraphs, in plain words: whichever goes first, the others may go  parents by ears make ways that tell what both ends have; What is left of ears, and trees of them; Trees by their parents: roots, children, depths  and the reference's; Parents by ears are a join tree  and among all trees there is one just if all edges but one may go; Trees by their parents: the reference's ways  another root; What reduce.below tells to whoever ranges over it; What the functions of tables tell; What finding in tables tells; Rows put together, and parts of them; RowsParts; How values lie: what follows . -/
import Derived.Test.YtjplcdeaedflpaaGreatDoorB0
import Derived.Test.YtjplcdeaedflpaaGreatDoorB1
import Derived.Test.YtjplcdeaedflpaaGreatDoorB2
import Derived.Test.YtjplcdeaedflpaaGreatDoorB3
import Derived.RangeFuncLeaves
import Derived.WalkKit
import Derived.OwnWalkIn
import Derived.TacticsInMore
import Derived.LoopNIn
import Derived.LoopIn
import Derived.Lib.AppendIntMem
import Derived.Lib.ItoaLen
set_option linter.unusedVariables false
set_option linter.unusedSimpArgs false
namespace Go.Proofs.YtjplcdeaedflpaaGreatDoor.PL
namespace Gy
variable {V : Nat → Int → Prop}
/-- an ear, of those that are left -/
def Ear (V : Nat → Int → Prop) (L : Nat → Prop) (i p : Nat) : Prop := L i ∧ L p ∧ p ≠ i ∧ ∀ k, L k → k ≠ i → ∀ v, V i v → V k v → V p v
def less (L : Nat → Prop) (i : Nat) : Nat → Prop := fun k => L k ∧ k ≠ i
/-- all but one may go -/
inductive Elm (V : Nat → Int → Prop) : (Nat → Prop) → Prop
  | one {L : Nat → Prop} (r : Nat) (h : ∀ k, L k ↔ k = r) : Elm V L
  | step {L : Nat → Prop} (i p : Nat) (h : Ear V L i p) (t : Elm V (less L i)) : Elm V L
def swp (M : Nat → Prop) (i e : Nat) : Nat → Prop := fun k => (M k ∧ k ≠ i) ∨ (M i ∧ k = e)
theorem Elm.congr {L M : Nat → Prop} (h : Elm V L) (e : ∀ k, L k ↔ M k) : Elm V M := by
  have : L = M := funext fun k => propext (e k)
  rw [← this]; exact h
theorem Elm.swp {M : Nat → Prop} (h : Elm V M) : ∀ {i e : Nat}, i ≠ e → ¬ M e → (∀ k, M k → k ≠ i → ∀ v, V k v → (V i v ↔ V e v)) → Elm V (swp M i e) := by
  induction h with
  | @one L r h =>
    intro i e hie he hv
    by_cases hr : i = r
    · subst hr
      exact .one e fun k => by
        unfold Gy.swp
        constructor
        · rintro (⟨h1, h2⟩ | ⟨_, h2⟩)
          · exact absurd ((h k).1 h1) h2
          · exact h2
        · intro hk; exact .inr ⟨(h i).2 rfl, hk⟩
    · exact .one r fun k => by
        unfold Gy.swp
        constructor
        · rintro (⟨h1, h2⟩ | ⟨h1, h2⟩)
          · exact (h k).1 h1
          · exact absurd ((h i).1 h1) hr
        · intro hk; exact .inl ⟨(h k).2 hk, by rw [hk]; exact fun e => hr e.symm⟩
  | @step L j q hj t ih =>
    intro i e hie he hv
    obtain ⟨j1, j2, j3, j4⟩ := hj
    have hje : j ≠ e := fun h => he (h ▸ j1)
    have hqe : q ≠ e := fun h => he (h ▸ j2)
    have key := ih (i := i) (e := e) hie (fun h => he h.1) (fun k hk hki => hv k hk.1 hki)
    by_cases hji : j = i
    · subst hji
      refine .step e q ⟨.inr ⟨j1, rfl⟩, .inl ⟨j2, j3⟩, hqe, ?_⟩ (t.congr fun k => ?_)
      · rintro k (⟨h1, h2⟩ | ⟨_, h2⟩) hke v he' hk
        · exact j4 k h1 h2 v ((hv k h1 h2 v hk).2 he') hk
        · exact absurd h2 hke
      · unfold less Gy.swp
        constructor
        · rintro ⟨h1, h2⟩; exact ⟨.inl ⟨h1, h2⟩, fun h => he (h ▸ h1)⟩
        · rintro ⟨⟨h1, h2⟩ | ⟨_, h2⟩, h3⟩
          · exact ⟨h1, h2⟩
          · exact absurd h2 h3
    · have ext : ∀ k, Gy.swp (less L j) i e k ↔ less (Gy.swp L i e) j k := by
        intro k
        unfold less Gy.swp
        constructor
        · rintro (⟨⟨h1, h2⟩, h3⟩ | ⟨⟨h1, h2⟩, h3⟩)
          · exact ⟨.inl ⟨h1, h3⟩, h2⟩
          · exact ⟨.inr ⟨h1, h3⟩, by rw [h3]; exact fun h => hje h.symm⟩
        · rintro ⟨⟨h1, h3⟩ | ⟨h1, h3⟩, h2⟩
          · exact .inl ⟨⟨h1, h2⟩, h3⟩
          · exact .inr ⟨⟨h1, fun h => hji h.symm⟩, h3⟩
      by_cases hqi : q = i
      · subst hqi
        refine .step j e ⟨.inl ⟨j1, hji⟩, .inr ⟨j2, rfl⟩, fun h => hje h.symm, ?_⟩ (key.congr ext)
        rintro k (⟨h1, h2⟩ | ⟨_, h2⟩) hkj v hjv hk
        · exact (hv j j1 hji v hjv).1 (j4 k h1 hkj v hjv hk)
        · rw [← h2]; exact hk
      · refine .step j q ⟨.inl ⟨j1, hji⟩, .inl ⟨j2, hqi⟩, j3, ?_⟩ (key.congr ext)
        rintro k (⟨h1, h2⟩ | ⟨h1, h2⟩) hkj v hjv hk
        · exact j4 k h1 hkj v hjv hk
        · rw [h2] at hk
          exact j4 i h1 (fun h => hji h.symm) v hjv ((hv j j1 hji v hjv).2 hk)
/-- whichever ear goes first, the others may go -/
theorem Elm.less {L : Nat → Prop} (h : Elm V L) : ∀ {i p : Nat}, Ear V L i p → Elm V (less L i) := by
  induction h with
  | @one L r h =>
    rintro i p ⟨h1, h2, h3, _⟩
    exact absurd (((h p).1 h2).trans ((h i).1 h1).symm) h3
  | @step L e p1 he t ih =>
    intro i p hi
    obtain ⟨e1, e2, e3, e4⟩ := he
    obtain ⟨i1, i2, i3, i4⟩ := hi
    by_cases hie : i = e
    · subst hie; exact t
    have hie' : e ≠ i := fun h => hie h.symm
    have ext : ∀ k, Gy.less (Gy.less L e) i k ↔ Gy.less (Gy.less L i) e k := fun k => ⟨fun ⟨⟨a, b⟩, c⟩ => ⟨⟨a, c⟩, b⟩, fun ⟨⟨a, b⟩, c⟩ => ⟨⟨a, c⟩, b⟩⟩
    by_cases hpe : p = e
    · subst hpe
      by_cases hpi : p1 = i
      · subst hpi
        refine (Elm.swp t (i := p1) (e := p) hie (fun h => h.2 rfl) ?_).congr fun k => ?_
        · intro k hk hki v hkv
          exact ⟨fun h => i4 k hk.1 hki v h hkv, fun h => e4 k hk.1 hk.2 v h hkv⟩
        · unfold Gy.swp Gy.less
          constructor
          · rintro (⟨⟨h1, h2⟩, h3⟩ | ⟨_, h2⟩)
            · exact ⟨h1, h3⟩
            · rw [h2]; exact ⟨e1, hie'⟩
          · rintro ⟨h1, h2⟩
            by_cases hk : k = p
            · exact .inr ⟨⟨e2, e3⟩, hk⟩
            · exact .inl ⟨⟨h1, hk⟩, h2⟩
      · have hear : Ear V (Gy.less L p) i p1 := ⟨⟨i1, hie⟩, ⟨e2, e3⟩, hpi, fun k hk hki v hiv hkv => e4 k hk.1 hk.2 v (i4 k hk.1 hki v hiv hkv) hkv⟩
        refine .step p p1 ⟨⟨e1, hie'⟩, ⟨e2, hpi⟩, e3, fun k hk hke v hev hkv => e4 k hk.1 hke v hev hkv⟩ ((ih hear).congr ext)
    · have hear : Ear V (Gy.less L e) i p := ⟨⟨i1, hie⟩, ⟨i2, hpe⟩, i3, fun k hk hki => i4 k hk.1 hki⟩
      by_cases hpi : p1 = i
      · subst hpi
        refine .step e p ⟨⟨e1, hie'⟩, ⟨i2, i3⟩, hpe, fun k hk hke v hev hkv => i4 k hk.1 hk.2 v (e4 k hk.1 hke v hev hkv) hkv⟩ ((ih hear).congr ext)
      · refine .step e p1 ⟨⟨e1, hie'⟩, ⟨e2, hpi⟩, e3, fun k hk hke v hev hkv => e4 k hk.1 hke v hev hkv⟩ ((ih hear).congr ext)
/-- whichever stays, another one may go -/
theorem Elm.two {L : Nat → Prop} (h : Elm V L) : ∀ {r : Nat}, L r → (∃ k, L k ∧ k ≠ r) → ∃ i p, Ear V L i p ∧ i ≠ r := by
  induction h with
  | @one L r' h =>
    rintro r hr ⟨k, hk, hkr⟩
    exact absurd (((h k).1 hk).trans ((h r).1 hr).symm) hkr
  | @step L e p1 he t ih =>
    intro r hr hk
    by_cases her : e = r
    · subst her
      obtain ⟨e1, e2, e3, e4⟩ := he
      by_cases h2 : ∃ k, Gy.less L e k ∧ k ≠ p1
      · obtain ⟨i, q, ⟨i1, i2, i3, i4⟩, hip⟩ := ih (r := p1) ⟨e2, e3⟩ h2
        refine ⟨i, q, ⟨i1.1, i2.1, i3, fun k hk hki v hiv hkv => ?_⟩, i1.2⟩
        by_cases hke : k = e
        · subst hke
          exact i4 p1 ⟨e2, e3⟩ (fun h => hip h.symm) v hiv (e4 i i1.1 i1.2 v hkv hiv)
        · exact i4 k ⟨hk, hke⟩ hki v hiv hkv
      · refine ⟨p1, e, ⟨e2, e1, fun h => e3 h.symm, fun k hk hkp v hpv hkv => ?_⟩, e3⟩
        by_cases hke : k = e
        · rw [← hke]; exact hkv
        · exact absurd ⟨k, ⟨hk, hke⟩, hkp⟩ h2
    · exact ⟨e, p1, he, her⟩
theorem Elm.some {L : Nat → Prop} (h : Elm V L) : ∃ r, L r := by
  cases h with
  | one r h => exact ⟨r, (h r).2 rfl⟩
  | step i p h t => exact ⟨i, h.1⟩

/-! ### trees, by their parents -/
/-- the way up -/
inductive Up (f : Nat → Option Nat) : Nat → List Nat → Prop
  | root {r : Nat} (h : f r = none) : Up f r [r]
  | step {i p : Nat} {U : List Nat} (h : f i = some p) (t : Up f p U) : Up f i (i :: U)
theorem Up.uniq {f : Nat → Option Nat} {i : Nat} {U U' : List Nat} (h : Up f i U) (h' : Up f i U') : U = U' := by
  induction h generalizing U' with
  | root h => cases h' with
    | root _ => rfl
    | step h2 _ => rw [h] at h2; cases h2
  | step h t ih => cases h' with
    | root h2 => rw [h] at h2; cases h2
    | step h2 t2 =>
      rw [h] at h2
      cases h2
      rw [ih t2]
theorem Up.head {f : Nat → Option Nat} {i : Nat} {U : List Nat} (h : Up f i U) : ∃ U', U = i :: U' := by
  cases h with
  | root _ => exact ⟨[], rfl⟩
  | step _ _ => exact ⟨_, rfl⟩
theorem Up.mem {f : Nat → Option Nat} {i : Nat} {U : List Nat} (h : Up f i U) : i ∈ U := by
  obtain ⟨U', rfl⟩ := h.head
  simp
/-- what stands on the way stands on its way -/
theorem Up.sub {f : Nat → Option Nat} {i : Nat} {U : List Nat} (h : Up f i U) : ∀ {k : Nat}, k ∈ U → ∃ W, Up f k W ∧ (∀ x, x ∈ W → x ∈ U) ∧ W.length ≤ U.length := by
  induction h with
  | root h =>
    intro k hk
    simp at hk
    subst hk
    exact ⟨_, .root h, fun x hx => hx, Nat.le_refl _⟩
  | @step i p U h t ih =>
    intro k hk
    rcases List.mem_cons.1 hk with rfl | hk
    · exact ⟨_, .step h t, fun x hx => hx, Nat.le_refl _⟩
    · obtain ⟨W, h1, h2, h3⟩ := ih hk
      exact ⟨W, h1, fun x hx => List.mem_cons_of_mem _ (h2 x hx), by simp; omega⟩
/-- the first of one way that stands on another one -/
def meet (x y : List Nat) : Option Nat := x.find? fun k => decide (k ∈ y)
/-- is a node on the way between two? -/
def On (f : Nat → Option Nat) (a b n : Nat) : Prop := ∃ A B N m, Up f a A ∧ Up f b B ∧ Up f n N ∧ (n ∈ A ∨ n ∈ B) ∧ meet A B = some m ∧ m ∈ N
/-- parents by ears -/
inductive ElT (V : Nat → Int → Prop) (f : Nat → Option Nat) : (Nat → Prop) → Prop
  | one {L : Nat → Prop} (r : Nat) (h : ∀ k, L k ↔ k = r) (hf : f r = none) : ElT V f L
  | step {L : Nat → Prop} (i p : Nat) (h : Ear V L i p) (hf : f i = some p) (t : ElT V f (less L i)) : ElT V f L
theorem ElT.up {f : Nat → Option Nat} {L : Nat → Prop} (h : ElT V f L) : ∀ i, L i → ∃ U, Up f i U ∧ U.Nodup ∧ ∀ x, x ∈ U → L x := by
  induction h with
  | @one L r h hf =>
    intro i hi
    have : i = r := (h i).1 hi
    subst this
    exact ⟨[i], .root hf, by simp, fun x hx => by simp at hx; rw [hx]; exact hi⟩
  | @step L i p he hf t ih =>
    intro k hk
    by_cases hki : k = i
    · subst hki
      obtain ⟨U, h1, h2, h3⟩ := ih p ⟨he.2.1, he.2.2.1⟩
      refine ⟨k :: U, .step hf h1, List.nodup_cons.2 ⟨fun h => (h3 k h).2 rfl, h2⟩, fun x hx => ?_⟩
      rcases List.mem_cons.1 hx with rfl | hx
      · exact hk
      · exact (h3 x hx).1
    · obtain ⟨U, h1, h2, h3⟩ := ih k ⟨hk, hki⟩
      exact ⟨U, h1, h2, fun x hx => (h3 x hx).1⟩
theorem ElT.on {f : Nat → Option Nat} {L : Nat → Prop} (h : ElT V f L) : ∀ a b n, L a → L b → On f a b n → ∀ v, V a v → V b v → V n v := by
  induction h with
  | @one L r h hf =>
    rintro a b n ha hb ⟨A, B, N, m, hA, hB, hN, hn, hm, hmN⟩ v hva hvb
    have ea : a = r := (h a).1 ha
    have eb : b = r := (h b).1 hb
    subst ea
    subst eb
    have e1 := hA.uniq (.root hf)
    have e2 := hB.uniq (.root hf)
    subst e1
    subst e2
    have : n = b := by simpa using hn
    rw [this]; exact hva
  | @step L i p he hf t ih =>
    obtain ⟨i1, i2, i3, i4⟩ := he
    obtain ⟨P, p1, p2, p3⟩ := t.up p ⟨i2, i3⟩
    have hiP : i ∉ P := fun h => (p3 i h).2 rfl
    have hI := Up.step hf p1
    rintro a b n ha hb ⟨A, B, N, m, hA, hB, hN, hn, hm, hmN⟩ v hva hvb
    by_cases hai : a = i
    · subst hai
      have eA := hA.uniq hI
      subst eA
      by_cases hbi : b = a
      · subst hbi
        have eB := hB.uniq hI
        subst eB
        have hm2 : m = b := by simpa [meet] using hm.symm
        subst hm2
        by_cases hnm : n = m
        · rw [hnm]; exact hva
        · have hnP : n ∈ P := by
            rcases hn with h | h <;> rcases List.mem_cons.1 h with h | h <;> first | exact h | exact absurd h hnm
          obtain ⟨W, w1, w2, w3⟩ := p1.sub hnP
          have := hN.uniq w1
          subst this
          exact absurd (w2 m hmN) hiP
      · obtain ⟨B', b1, b2, b3⟩ := t.up b ⟨hb, hbi⟩
        have eB := hB.uniq b1
        subst eB
        have haB : a ∉ B := fun h => (b3 a h).2 rfl
        by_cases hna : n = a
        · rw [hna]; exact hva
        · have hm2 : meet P B = some m := by
            unfold meet at hm ⊢
            rwa [List.find?_cons_of_neg (by simpa using haB)] at hm
          have hn2 : n ∈ P ∨ n ∈ B := by
            rcases hn with h | h
            · rcases List.mem_cons.1 h with h | h
              · exact absurd h hna
              · exact .inl h
            · exact .inr h
          exact ih p b n ⟨i2, i3⟩ ⟨hb, hbi⟩ ⟨P, B, N, m, p1, hB, hN, hn2, hm2, hmN⟩ v (i4 b hb hbi v hva hvb) hvb
    · obtain ⟨A', a1, a2, a3⟩ := t.up a ⟨ha, hai⟩
      have eA := hA.uniq a1
      subst eA
      have hiA : i ∉ A := fun h => (a3 i h).2 rfl
      by_cases hbi : b = i
      · subst hbi
        have eB := hB.uniq hI
        subst eB
        have hm2 : meet A P = some m := by
          rw [← hm]
          unfold meet
          have : ∀ l : List Nat, (∀ x, x ∈ l → x ≠ b) → l.find? (fun k => decide (k ∈ P)) = l.find? (fun k => decide (k ∈ b :: P)) := by
            intro l hl
            induction l with
            | nil => rfl
            | cons x l ih2 =>
              have hx := hl x (by simp)
              have := ih2 fun y hy => hl y (by simp [hy])
              simp only [List.find?_cons, List.mem_cons, hx, false_or]
              rw [this]
              simp only [List.mem_cons]
          exact this A fun x hx h => hiA (h ▸ hx)
        by_cases hnb : n = b
        · rw [hnb]; exact hvb
        · have hn2 : n ∈ A ∨ n ∈ P := by
            rcases hn with h | h
            · exact .inl h
            · rcases List.mem_cons.1 h with h | h
              · exact absurd h hnb
              · exact .inr h
          exact ih a p n ⟨ha, hai⟩ ⟨i2, i3⟩ ⟨A, P, N, m, hA, p1, hN, hn2, hm2, hmN⟩ v hva (i4 a ha hai v hvb hva)
      · exact ih a b n ⟨ha, hai⟩ ⟨hb, hbi⟩ ⟨A, B, N, m, hA, hB, hN, hn, hm, hmN⟩ v hva hvb
/-- ears, one after the other -/
inductive Run (V : Nat → Int → Prop) : (Nat → Prop) → List (Nat × Nat) → (Nat → Prop) → Prop
  | nil {L : Nat → Prop} : Run V L [] L
  | cons {L L' : Nat → Prop} {i p : Nat} {es : List (Nat × Nat)} (h : Ear V L i p) (t : Run V (less L i) es L') : Run V L ((i, p) :: es) L'
theorem Run.mem {L L' : Nat → Prop} {es : List (Nat × Nat)} (h : Run V L es L') : (∀ x, x ∈ es → L x.1 ∧ L x.2 ∧ ¬ L' x.1) ∧ ∀ k, L' k → L k := by
  induction h with
  | nil => exact ⟨fun x hx => (by cases hx), fun k h => h⟩
  | @cons L L' i p es he t ih =>
    refine ⟨fun x hx => ?_, fun k hk => (ih.2 k hk).1⟩
    rcases List.mem_cons.1 hx with rfl | hx
    · exact ⟨he.1, he.2.1, fun h => (ih.2 _ h).2 rfl⟩
    · have := ih.1 x hx
      exact ⟨this.1.1, this.2.1.1, this.2.2⟩
theorem Run.someL {L L' : Nat → Prop} {es : List (Nat × Nat)} (h : Run V L es L') (hs : ∃ r, L r) : ∃ r, L' r := by
  induction h with
  | nil => exact hs
  | @cons L L' i p es he t ih => exact ih ⟨p, he.2.1, he.2.2.1⟩
theorem Run.out {L L' : Nat → Prop} {es : List (Nat × Nat)} (h : Run V L es L') : ∀ k, L k → ¬ L' k → ∃ p, (k, p) ∈ es := by
  induction h with
  | nil => exact fun k h1 h2 => absurd h1 h2
  | @cons L L' i p es he t ih =>
    intro k h1 h2
    by_cases hk : k = i
    · exact ⟨p, by rw [hk]; simp⟩
    · obtain ⟨q, hq⟩ := ih k ⟨h1, hk⟩ h2
      exact ⟨q, List.mem_cons_of_mem _ hq⟩
theorem Run.nodup {L L' : Nat → Prop} {es : List (Nat × Nat)} (h : Run V L es L') : (es.map Prod.fst).Nodup := by
  induction h with
  | nil => simp
  | @cons L L' i p es he t ih =>
    rw [List.map_cons, List.nodup_cons]
    refine ⟨fun hm => ?_, ih⟩
    obtain ⟨x, hx, e⟩ := List.mem_map.1 hm
    exact ((t.mem.1 x hx).1).2 e
theorem Run.elt {f : Nat → Option Nat} {r : Nat} {L L' : Nat → Prop} {es : List (Nat × Nat)} (h : Run V L es L') (hr : ∀ k, L' k ↔ k = r) (hf : ∀ x, x ∈ es → f x.1 = some x.2) (h0 : f r = none) : ElT V f L := by
  induction h with
  | nil => exact .one r hr h0
  | @cons L L' i p es he t ih => exact .step i p he (hf (i, p) (by simp)) (ih hr fun x hx => hf x (by simp [hx]))
/-- where no ear is left, one is left alone -/
theorem Elm.last {L : Nat → Prop} (h : Elm V L) (hn : ∀ i p, ¬ Ear V L i p) : ∃ r, ∀ k, L k ↔ k = r := by
  cases h with
  | one r h => exact ⟨r, h⟩
  | step i p h t => exact absurd h (hn i p)
/-- any one may be the last one -/
theorem Elm.run {r : Nat} : ∀ (S : List Nat) {L : Nat → Prop}, Elm V L → L r → (∀ k, L k → k ∈ S) → ∃ es L', Run V L es L' ∧ ∀ k, L' k ↔ k = r := by
  intro S
  induction hm : S.length generalizing S with
  | zero =>
    intro L h hr hs
    have : S = [] := List.eq_nil_of_length_eq_zero hm
    subst this
    cases hs r hr
  | succ m ih =>
    intro L h hr hs
    by_cases h2 : ∃ k, L k ∧ k ≠ r
    · obtain ⟨i, p, he, hir⟩ := h.two hr h2
      obtain ⟨es, L', h3, h4⟩ := ih (S.erase i) (by rw [List.length_erase_of_mem (hs i he.1), hm]; rfl) (h.less he) ⟨hr, fun e => hir e.symm⟩ (fun k hk => (List.mem_erase_of_ne hk.2).2 (hs k hk.1))
      exact ⟨(i, p) :: es, L', .cons he h3, h4⟩
    · exact ⟨[], L, .nil, fun k => ⟨fun hk => Classical.byContradiction fun hkr => h2 ⟨k, hk, hkr⟩, fun e => e ▸ hr⟩⟩
end Gy
end Go.Proofs.YtjplcdeaedflpaaGreatDoor.PL
namespace Go.Proofs.YtjplcdeaedflpaaGreatDoor.PL
open Go.Proofs
set_option linter.unusedVariables false
set_option linter.unusedSimpArgs false
/-- has an edge a vertex? -/
def vx (h : List (List Int)) (i : Nat) (v : Int) : Prop := v ∈ h.getD i []
def lf (left : List Bool) (k : Nat) : Prop := left.getD k false = true
theorem vx_lt {h : List (List Int)} {i : Nat} {v : Int} (hv : vx h i v) : i < h.length := by
  rcases Nat.lt_or_ge i h.length with h1 | h1
  · exact h1
  · unfold vx at hv
    rw [List.getD_eq_getElem?_getD, List.getElem?_eq_none h1] at hv
    cases hv
theorem lf_lt {left : List Bool} {k : Nat} (hk : lf left k) : k < left.length := by
  rcases Nat.lt_or_ge k left.length with h1 | h1
  · exact h1
  · unfold lf at hk
    rw [List.getD_eq_getElem?_getD, List.getElem?_eq_none h1] at hk
    cases hk
theorem earQ_iff {h : List (List Int)} {left : List Bool} {i p : Nat} : earQ h left i p = true ↔ p ≠ i ∧ lf left p ∧ ∀ k, lf left k → k ≠ i → ∀ v, vx h i v → vx h k v → vx h p v := by
  unfold earQ
  rw [Bool.and_eq_true, Bool.and_eq_true, withinI_iff]
  constructor
  · rintro ⟨h1, h2, h3⟩
    refine ⟨by simpa using h1, h2, fun k hk hki v hv hv2 => ?_⟩
    exact h3 v (outP_mem.2 ⟨k, vx_lt hv2, hki, hk, sharedI_mem.2 ⟨hv, hv2⟩⟩)
  · rintro ⟨h1, h2, h3⟩
    refine ⟨by simpa using h1, h2, fun v hv => ?_⟩
    obtain ⟨k, h4, h5, h6, h7⟩ := outP_mem.1 hv
    obtain ⟨h8, h9⟩ := sharedI_mem.1 h7
    exact h3 k h6 h5 v h8 h9
theorem earF_ear {h : List (List Int)} {left : List Bool} {i p : Nat} (he : earF h left i = some p) : Gy.Ear (vx h) (lf left) i p := by
  obtain ⟨h1, h2, h3⟩ := earQ_iff.1 (earF_lt he).2
  exact ⟨earF_left he, h2, h1, h3⟩
theorem lf_set {left : List Bool} {i : Nat} : lf (left.set i false) = Gy.less (lf left) i := by
  funext k
  unfold lf Gy.less
  rw [List.getD_eq_getElem?_getD, List.getElem?_set]
  show _ = (left.getD k false = true ∧ k ≠ i)
  rw [List.getD_eq_getElem?_getD]
  by_cases hk : i = k
  · subst hk
    rw [if_pos rfl]
    split <;> simp
  · rw [if_neg hk]
    simp
    intro _ e
    exact hk e.symm
theorem playF_run {h : List (List Int)} : ∀ (m : Nat) (left : List Bool), Gy.Run (vx h) (lf left) (playF h m left).1 (lf (playF h m left).2)
  | 0, left => .nil
  | m + 1, left => by
    rw [playF]
    cases hq : ear1 h left with
    | none => exact .nil
    | some y =>
      obtain ⟨i, p⟩ := y
      have h2 := (ear1_some hq).2
      exact .cons (earF_ear h2) (by rw [← lf_set]; exact playF_run m _)
theorem lf_all {n : Nat} : lf (List.replicate n true) = fun k => k < n := by
  funext k
  unfold lf
  rw [List.getD_eq_getElem?_getD, List.getElem?_replicate]
  by_cases h : k < n <;> simp [h]
theorem playI_run (h : List (List Int)) : Gy.Run (vx h) (fun k => k < h.length) (playI h).1 (lf (playI h).2) := by
  have := playF_run (h := h) h.length (List.replicate h.length true)
  rwa [lf_all] at this
theorem rest_one {left : List Bool} (hs : ∃ r, lf left r) : (restI left).length ≤ 1 ↔ ∃ r, ∀ k, lf left k ↔ k = r := by
  have hm : ∀ k, lf left k ↔ k ∈ (List.range left.length).filter fun k => left.getD k false := fun k => by
    simp only [List.mem_filter, List.mem_range]
    exact ⟨fun h => ⟨lf_lt h, h⟩, fun h => h.2⟩
  have hnd : ((List.range left.length).filter fun k => left.getD k false).Nodup := List.Nodup.sublist List.filter_sublist List.nodup_range
  unfold restI
  rw [List.length_map]
  generalize (List.range left.length).filter (fun k => left.getD k false) = F at *
  constructor
  · intro hl
    match F, hl with
    | [], _ => obtain ⟨r, hr⟩ := hs; exact absurd ((hm r).1 hr) (by simp)
    | [r], _ => exact ⟨r, fun k => by rw [hm]; simp⟩
  · rintro ⟨r, hr⟩
    match F with
    | [] => simp
    | [a] => simp
    | a :: b :: F =>
      have h1 := (hr a).1 ((hm a).2 (by simp))
      have h2 := (hr b).1 ((hm b).2 (by simp))
      rw [List.nodup_cons] at hnd
      exact absurd (by rw [h1, h2]; simp) hnd.1
/-- acyclic: all edges but one may go -/
theorem acy_iff (h : List (List Int)) (hn : 0 < h.length) : acyI h = true ↔ ∃ r, ∀ k, lf (playI h).2 k ↔ k = r := by
  unfold acyI
  rw [decide_eq_true_iff]
  exact rest_one ((playI_run h).someL ⟨0, hn⟩)
/-! ### trees -/
def fOf (ps : List Int) (i : Nat) : Option Nat := if ps.getD i (-1) = -1 then none else some (ps.getD i (-1)).toNat
abbrev nI (l : List Nat) : List Int := l.map fun (n : Nat) => (n : Int)
def TreeOk (ps : List Int) : Prop := ∀ i, i < ps.length → ∃ U, Gy.Up (fOf ps) i U ∧ (∀ x, x ∈ U → x < ps.length) ∧ upI ps i = nI U
theorem upF_up {ps : List Int} : ∀ (m : Nat) (i : Int), upF ps m i ≠ [] → ps.getD ((upF ps m i).getLast?.getD 0).toNat 0 = -1 → ∃ U, Gy.Up (fOf ps) i.toNat U ∧ (∀ x, x ∈ U → x < ps.length) ∧ upF ps m i = nI U
  | 0, i, h, _ => absurd rfl h
  | m + 1, i, h, hl => by
    rw [upF] at h hl ⊢
    split at h
    · rename_i hc
      rw [if_pos hc] at hl ⊢
      obtain ⟨k, rfl⟩ : ∃ k : Nat, i = k := ⟨i.toNat, by omega⟩
      have hk : k < ps.length := by omega
      have e1 : ps.getD (k : Int).toNat 0 = ps[k] := by simp [hk]
      have e2 : ps.getD (k : Int).toNat (-1) = ps[k] := by simp [hk]
      by_cases ht : upF ps m (ps.getD (k : Int).toNat 0) = []
      · rw [ht] at hl ⊢
        have : ps[k] = -1 := by simpa [hk] using hl
        refine ⟨[k], .root (by unfold fOf; rw [e2, this]; rfl), fun x hx => by simp at hx; omega, rfl⟩
      · rw [List.getLast?_cons_of_ne_nil ht] at hl
        obtain ⟨U, h1, h2, h3⟩ := upF_up m _ ht hl
        have hne : 0 ≤ ps[k] ∧ ps[k] < ps.length := by
          rw [e1] at ht
          cases m with
          | zero => exact absurd rfl ht
          | succ m =>
            rw [upF] at ht
            split at ht
            · assumption
            · exact absurd rfl ht
        rw [e1] at h1
        refine ⟨k :: U, .step (p := ps[k].toNat) ?_ h1, fun x hx => ?_, by rw [h3]; rfl⟩
        · unfold fOf
          rw [e2, if_neg (by omega)]
        · rcases List.mem_cons.1 hx with rfl | hx
          · exact hk
          · exact h2 x hx
    · exact absurd rfl h
theorem tree_ok {ps : List Int} (h : treeI ps = true) : TreeOk ps := by
  intro i hi
  unfold treeI at h
  rw [Bool.and_eq_true, List.all_eq_true] at h
  have h1 := h.1 i (by simpa using hi)
  unfold endOk at h1
  have := upF_up ps.length i (upI_ne hi) (by simpa [upI] using h1)
  exact this
theorem up_upF {ps : List Int} {i : Nat} {U : List Nat} (h : Gy.Up (fOf ps) i U) : (∀ x, x ∈ U → x < ps.length) → (∀ x, x ∈ U → -1 ≤ ps.getD x (-1)) → ∀ m, U.length ≤ m → upF ps m i = nI U := by
  induction h with
  | @root r h =>
    intro hx hg m hm
    obtain ⟨m, rfl⟩ : ∃ k, m = k + 1 := ⟨m - 1, by simp at hm; omega⟩
    have hr : r < ps.length := hx r (by simp)
    have hc : 0 ≤ (r : Int) ∧ (r : Int) < ps.length := ⟨by omega, by omega⟩
    rw [upF, if_pos hc]
    have e1 : ps.getD (r : Int).toNat 0 = -1 := by
      unfold fOf at h
      split at h
      · rename_i e; simp [hr] at e ⊢; exact e
      · cases h
    rw [e1]
    cases m with
    | zero => rfl
    | succ m => rw [upF, if_neg (by omega)]; rfl
  | @step i p U h t ih =>
    intro hx hg m hm
    obtain ⟨m, rfl⟩ : ∃ k, m = k + 1 := ⟨m - 1, by simp at hm; omega⟩
    have hr : i < ps.length := hx i (by simp)
    have hc : 0 ≤ (i : Int) ∧ (i : Int) < ps.length := ⟨by omega, by omega⟩
    rw [upF, if_pos hc]
    have e1 : ps.getD (i : Int).toNat 0 = (p : Int) := by
      have hgi := hg i (by simp)
      unfold fOf at h
      split at h
      · cases h
      · rename_i e
        simp only [Option.some.injEq] at h
        simp [hr] at e hgi h ⊢
        omega
    rw [e1, ih (fun x h => hx x (by simp [h])) (fun x h => hg x (by simp [h])) m (by simp at hm; omega)]
    rfl
theorem mem_nI {k : Nat} {l : List Nat} : (k : Int) ∈ nI l ↔ k ∈ l := by
  unfold nI
  rw [List.mem_map]
  exact ⟨fun ⟨a, h1, h2⟩ => by have : a = k := by omega
                               rw [← this]; exact h1, fun h => ⟨k, h, rfl⟩⟩
theorem meet_nI (A B : List Nat) : meetI (nI A) (nI B) = match Gy.meet A B with | some m => (m : Int) | none => -1 := by
  unfold meetI Gy.meet
  have : (nI A).find? (fun v => decide (v ∈ nI B)) = (A.find? fun k => decide (k ∈ B)).map fun (n : Nat) => (n : Int) := by
    unfold nI
    induction A with
    | nil => rfl
    | cons a A ih =>
      rw [List.map_cons, List.find?_cons, List.find?_cons]
      have : decide ((a : Int) ∈ List.map (fun (n : Nat) => (n : Int)) B) = decide (a ∈ B) := by
        have := mem_nI (k := a) (l := B)
        unfold nI at this
        simp only [this]
      rw [this]
      cases decide (a ∈ B) with
      | true => rfl
      | false => exact ih
  rw [this]
  cases A.find? (fun k => decide (k ∈ B)) <;> rfl
theorem path_on {ps : List Int} (ht : TreeOk ps) {a b k : Nat} (ha : a < ps.length) (hb : b < ps.length) (hk : k < ps.length) : pathI ps a b k = true ↔ Gy.On (fOf ps) a b k := by
  obtain ⟨A, a1, a2, a3⟩ := ht a ha
  obtain ⟨B, b1, b2, b3⟩ := ht b hb
  obtain ⟨N, n1, n2, n3⟩ := ht k hk
  unfold pathI
  rw [a3, b3, n3, meet_nI, Bool.and_eq_true, Bool.or_eq_true, decide_eq_true_iff, decide_eq_true_iff, decide_eq_true_iff, mem_nI, mem_nI]
  constructor
  · rintro ⟨h1, h2⟩
    cases hm : Gy.meet A B with
    | none =>
      rw [hm] at h2
      exact absurd h2 (by unfold nI; simp)
    | some m =>
      rw [hm] at h2
      exact ⟨A, B, N, m, a1, b1, n1, h1, hm, mem_nI.1 h2⟩
  · rintro ⟨A', B', N', m, h1, h2, h3, h4, h5, h6⟩
    obtain rfl := h1.uniq a1
    obtain rfl := h2.uniq b1
    obtain rfl := h3.uniq n1
    refine ⟨h4, ?_⟩
    rw [h5]
    exact mem_nI.2 h6
end Go.Proofs.YtjplcdeaedflpaaGreatDoor.PL
namespace Go.Proofs.YtjplcdeaedflpaaGreatDoor.PL
open Go.Proofs
set_option linter.unusedVariables false
set_option linter.unusedSimpArgs false
/-- a tree's parents are nodes of it -/
theorem tree_par {ps : List Int} (h : treeI ps = true) {i : Nat} (hi : i < ps.length) : ps[i] = -1 ∨ (0 ≤ ps[i] ∧ ps[i] < ps.length) := by
  unfold treeI at h
  rw [Bool.and_eq_true, List.all_eq_true] at h
  have h1 := h.1 i (by simpa using hi)
  unfold endOk upI at h1
  rw [decide_eq_true_iff] at h1
  obtain ⟨m, hm⟩ : ∃ m, ps.length = m + 1 := ⟨ps.length - 1, by omega⟩
  have hc : 0 ≤ (i : Int) ∧ (i : Int) < ps.length := ⟨by omega, by omega⟩
  have e1 : ps.getD (i : Int).toNat 0 = ps[i] := by simp [hi]
  rw [hm, upF, if_pos hc, e1] at h1
  cases m with
  | zero =>
    rw [upF] at h1
    simp [hi] at h1
    exact .inl h1
  | succ m =>
    rw [upF] at h1
    split at h1
    · rename_i h2; exact .inr h2
    · simp [hi] at h1
      exact .inl h1
end Go.Proofs.YtjplcdeaedflpaaGreatDoor.PL
namespace Go.Proofs.YtjplcdeaedflpaaGreatDoor.PL
open Go.Proofs
set_option linter.unusedVariables false
set_option linter.unusedSimpArgs false
theorem parF_not {es : List (Nat × Nat)} {i : Nat} : ∀ {l : List Int}, (∀ x, x ∈ es → x.1 ≠ i) → (parF es l)[i]? = l[i]? := by
  induction es with
  | nil => intro l _; rfl
  | cons e es ih =>
    intro l h
    have : parF (e :: es) l = parF es (l.set e.1 (e.2 : Nat)) := rfl
    rw [this, ih fun x hx => h x (List.mem_cons_of_mem _ hx), List.getElem?_set_ne (h e (by simp))]
theorem parF_get {es : List (Nat × Nat)} {i p : Nat} : ∀ {l : List Int}, (es.map Prod.fst).Nodup → (i, p) ∈ es → i < l.length → (parF es l)[i]? = some (p : Int) := by
  induction es with
  | nil => intro l _ h; cases h
  | cons e es ih =>
    intro l hn h hi
    rw [List.map_cons, List.nodup_cons] at hn
    have e1 : parF (e :: es) l = parF es (l.set e.1 (e.2 : Nat)) := rfl
    rw [e1]
    rcases List.mem_cons.1 h with rfl | h
    · rw [parF_not fun x hx e => hn.1 (List.mem_map.2 ⟨x, hx, e⟩), List.getElem?_set_self hi]
    · exact ih hn.2 h (by simpa using hi)
theorem count_one {l : List Int} {a : Int} {r : Nat} (hr : r < l.length) (h : ∀ i (hi : i < l.length), l[i] = a ↔ i = r) : l.count a = 1 := by
  have key : ∀ m, m ≤ l.length → (l.take m).count a = if r < m then 1 else 0 := by
    intro m
    induction m with
    | zero => intro _; simp
    | succ m ih =>
      intro hm
      have := ih (by omega)
      rw [count_next (by omega), this]
      by_cases c : m = r
      · subst c
        rw [if_neg (by omega), if_pos ((h m (by omega)).2 rfl), if_pos (by omega)]
      · rw [if_neg (show ¬ l[m] = a from fun e => c ((h m (by omega)).1 e))]
        by_cases d : r < m
        · rw [if_pos d, if_pos (by omega)]
        · rw [if_neg d, if_neg (by omega)]
  have := key l.length (Nat.le_refl _)
  rwa [List.take_length, if_pos hr] at this
theorem one_count {l : List Int} {a : Int} (h : l.count a = 1) : ∃ r, r < l.length ∧ ∀ i (hi : i < l.length), l[i] = a ↔ i = r := by
  have hm : a ∈ l := List.count_pos_iff.1 (by omega)
  obtain ⟨r, hr, hra⟩ := List.getElem_of_mem hm
  refine ⟨r, hr, fun i hi => ⟨fun e => ?_, fun e => by subst e; exact hra⟩⟩
  -- two of them would count two
  have two : ∀ (i j : Nat) (hi : i < l.length) (hj : j < l.length), i < j → l[i] = a → l[j] = a → False := by
    intro i j hi hj hij h1 h2
    have e1 := count_next hi a
    have e2 := count_next hj a
    rw [if_pos h1] at e1
    rw [if_pos h2] at e2
    have mono : ∀ d, (l.take (i + 1)).count a ≤ (l.take (i + 1 + d)).count a := by
      intro d
      exact List.Sublist.count_le _ (by
        have : l.take (i + 1) = (l.take (i + 1 + d)).take (i + 1) := by rw [List.take_take, Nat.min_eq_left (by omega)]
        rw [this]; exact List.take_sublist _ _)
    have m1 := mono (j - (i + 1))
    rw [show i + 1 + (j - (i + 1)) = j by omega] at m1
    have m2 : (l.take (j + 1)).count a ≤ l.count a := List.Sublist.count_le _ (List.take_sublist _ _)
    omega
  rcases Nat.lt_trichotomy i r with h1 | h1 | h1
  · exact (two i r hi hr h1 e hra).elim
  · exact h1
  · exact (two r i hr hi h1 hra e).elim
theorem nat_nodup_le {U : List Nat} {n : Nat} (hn : U.Nodup) (h : ∀ x, x ∈ U → x < n) : U.length ≤ n := by
  induction n generalizing U with
  | zero =>
    cases U with
    | nil => simp
    | cons a U => have := h a (by simp); omega
  | succ n ih =>
    by_cases hm : n ∈ U
    · have h1 := ih (hn.erase n) fun x hx => by
        rw [hn.mem_erase_iff] at hx
        have := h x hx.2
        omega
      rw [List.length_erase_of_mem hm] at h1
      omega
    · have := ih hn fun x hx => by
        have h1 := h x hx
        have : x ≠ n := fun e => hm (e ▸ hx)
        omega
      omega
/-- parents by ears -/
theorem run_joins {h : List (List Int)} {es : List (Nat × Nat)} {L' : Nat → Prop} {r : Nat} (hrun : Gy.Run (vx h) (fun k => k < h.length) es L') (hr : ∀ k, L' k ↔ k = r) (hrn : r < h.length) :
    joinsP h (parF es (List.replicate h.length (-1))) ∧ (parF es (List.replicate h.length (-1)))[r]? = some (-1) ∧ ∀ i, i < h.length → i ≠ r → ∃ p : Nat, p < h.length ∧ (parF es (List.replicate h.length (-1)))[i]? = some (p : Int) := by
  obtain ⟨m1, m2⟩ := hrun.mem
  have hnd := hrun.nodup
  have hlen : (parF es (List.replicate h.length (-1))).length = h.length := by rw [parF_len]; simp
  have g1 : ∀ i p, (i, p) ∈ es → (parF es (List.replicate h.length (-1)))[i]? = some (p : Int) := fun i p hm => parF_get hnd hm (by simpa using (m1 _ hm).1)
  have g2 : (parF es (List.replicate h.length (-1)))[r]? = some (-1) := by
    rw [parF_not fun x hx e => (m1 x hx).2.2 ((hr _).2 e)]
    simp [hrn]
  have g3 : ∀ i, i < h.length → i ≠ r → ∃ p : Nat, p < h.length ∧ (parF es (List.replicate h.length (-1)))[i]? = some (p : Int) := by
    intro i hi hir
    obtain ⟨p, hp⟩ := hrun.out i hi fun hl => hir ((hr i).1 hl)
    exact ⟨p, (m1 _ hp).2.1, g1 i p hp⟩
  generalize parF es (List.replicate h.length (-1)) = ps at *
  refine ⟨?_, g2, g3⟩
  have f1 : ∀ x, x ∈ es → fOf ps x.1 = some x.2 := by
    intro x hx
    unfold fOf
    rw [List.getD_eq_getElem?_getD, g1 x.1 x.2 hx]
    have : ¬ (x.2 : Int) = -1 := by omega
    simp [this]
  have f2 : fOf ps r = none := by
    unfold fOf
    rw [List.getD_eq_getElem?_getD, g2]
    rfl
  have het := hrun.elt hr f1 f2
  have hge : ∀ x, x < ps.length → -1 ≤ ps.getD x (-1) := by
    intro x hx
    rw [List.getD_eq_getElem?_getD]
    by_cases hxr : x = r
    · subst hxr; rw [g2]; simp
    · obtain ⟨p, hp, he⟩ := g3 x (by omega) hxr
      rw [he]; simp
  have htree : TreeOk ps := by
    intro i hi
    obtain ⟨U, h1, h2, h3⟩ := het.up i (by omega)
    have h4 : ∀ x, x ∈ U → x < ps.length := fun x hx => by have := h3 x hx; omega
    exact ⟨U, h1, h4, up_upF h1 h4 (fun x hx => hge x (h4 x hx)) ps.length (nat_nodup_le h2 h4)⟩
  have last : ∀ {i : Nat} {U : List Nat}, Gy.Up (fOf ps) i U → (∀ x, x ∈ U → x < ps.length) → ∃ q, U.getLast? = some q ∧ ps[q]? = some (-1) := by
    intro i U hU
    induction hU with
    | @root q hq =>
      intro hx
      refine ⟨q, rfl, ?_⟩
      have hql : q < ps.length := hx q (by simp)
      unfold fOf at hq
      split at hq
      · rename_i e
        rw [List.getD_eq_getElem?_getD] at e
        rw [List.getElem?_eq_getElem hql] at e ⊢
        simpa using e
      · cases hq
    | @step i p U hp ht ih =>
      intro hx
      obtain ⟨q, h1, h2⟩ := ih fun x h => hx x (List.mem_cons_of_mem _ h)
      exact ⟨q, by rw [List.getLast?_cons_of_ne_nil (by rintro rfl; cases h1)]; exact h1, h2⟩
  refine ⟨hlen, ?_, ?_⟩
  · unfold treeI
    rw [all_range, Bool.true_and, Bool.or_eq_true, decide_eq_true_iff, decide_eq_true_iff]
    · right
      refine count_one (r := r) (by omega) fun i hi => ⟨fun e => ?_, fun e => ?_⟩
      · refine Classical.byContradiction fun hir => ?_
        obtain ⟨p, hp, he⟩ := g3 i (by omega) hir
        rw [List.getElem?_eq_getElem hi] at he
        simp at he
        omega
      · subst e
        rw [List.getElem?_eq_getElem hi] at g2
        simpa using g2
    · intro j hj
      obtain ⟨U, h1, h2, h3⟩ := htree j hj
      obtain ⟨q, q1, q2⟩ := last h1 h2
      unfold endOk
      rw [h3]
      have : (nI U).getLast? = some (q : Int) := by unfold nI; rw [List.getLast?_map, q1]; rfl
      rw [this]
      simp [q2]
  · intro a b k ha hb hk hp
    have := (path_on htree (by omega) (by omega) (by omega)).1 hp
    rw [withinI_iff]
    intro v hv
    obtain ⟨v1, v2⟩ := sharedI_mem.1 hv
    exact het.on a b k ha (by show b < _; omega) this v v1 v2
theorem parI_nil : parI [] = [] := by decide +kernel
/-- the parents of an acyclic hypergraph are a join tree -/
theorem par_joins {h : List (List Int)} (ha : acyI h = true) : joinsP h (parI h) := by
  rcases Nat.eq_zero_or_pos h.length with h0 | hn
  · have : h = [] := List.eq_nil_of_length_eq_zero h0
    subst this
    rw [parI_nil]
    exact ⟨rfl, rfl, fun a b k ha => by simp at ha⟩
  · obtain ⟨r, hr⟩ := (acy_iff h hn).1 ha
    have hrn : r < h.length := by have := lf_lt ((hr r).2 rfl); have := (playI_len h).1; omega
    exact (run_joins (playI_run h) hr hrn).1

end Go.Proofs.YtjplcdeaedflpaaGreatDoor.PL
namespace Go.Proofs.YtjplcdeaedflpaaGreatDoor.PL
open Go.Proofs
set_option linter.unusedVariables false
set_option linter.unusedSimpArgs false
theorem Gy.Up.split {f : Nat → Option Nat} {i : Nat} {U : List Nat} (h : Gy.Up f i U) : ∀ {c : Nat}, c ∈ U → ∃ P R, U = P ++ c :: R ∧ Gy.Up f c (c :: R) := by
  induction h with
  | root h =>
    intro c hc
    simp at hc
    subst hc
    exact ⟨[], [], rfl, .root h⟩
  | @step i p U h t ih =>
    intro c hc
    rcases List.mem_cons.1 hc with rfl | hc
    · exact ⟨[], U, rfl, .step h t⟩
    · obtain ⟨P, R, h1, h2⟩ := ih hc
      exact ⟨i :: P, R, by rw [h1]; rfl, h2⟩
theorem Gy.Up.nodup {f : Nat → Option Nat} {i : Nat} {U : List Nat} (h : Gy.Up f i U) : U.Nodup := by
  induction h with
  | root h => simp
  | @step i p U h t ih =>
    rw [List.nodup_cons]
    refine ⟨fun hi => ?_, ih⟩
    obtain ⟨W, w1, w2, w3⟩ := t.sub hi
    have := w1.uniq (.step h t)
    subst this
    simp at w3
    omega
/-- the root of a tree stands on each way -/
theorem tree_root {ps : List Int} (h : treeI ps = true) (hn : 0 < ps.length) : ∃ r, r < ps.length ∧ ∀ i, i < ps.length → (r : Int) ∈ upI ps i := by
  have ht := tree_ok h
  have hc : ps.count (-1) = 1 := by
    unfold treeI at h
    rw [Bool.and_eq_true, Bool.or_eq_true, decide_eq_true_iff, decide_eq_true_iff] at h
    rcases h.2 with h | h
    · omega
    · exact h
  obtain ⟨r, hr, hr2⟩ := one_count hc
  refine ⟨r, hr, fun i hi => ?_⟩
  obtain ⟨U, u1, u2, u3⟩ := ht i hi
  rw [u3, mem_nI]
  have : ∀ {j : Nat} {J : List Nat}, Gy.Up (fOf ps) j J → (∀ x, x ∈ J → x < ps.length) → r ∈ J := by
    intro j J hJ
    induction hJ with
    | @root q hf =>
      intro hx
      have hq := hx q (by simp)
      unfold fOf at hf
      split at hf
      · rename_i e
        rw [List.getD_eq_getElem?_getD, List.getElem?_eq_getElem hq] at e
        have := (hr2 q hq).1 (by simpa using e)
        simp [this]
      · cases hf
    | step hf t ih => intro hx; exact List.mem_cons_of_mem _ (ih fun x h => hx x (List.mem_cons_of_mem _ h))
  exact this u1 u2
theorem find_split {p : Int → Bool} : ∀ {l : List Int}, (∃ x, x ∈ l ∧ p x = true) → ∃ A c R, l = A ++ c :: R ∧ p c = true ∧ (∀ a, a ∈ A → p a = false) ∧ l.findIdx? p = some A.length ∧ l.find? p = some c
  | [], h => by obtain ⟨x, hx, _⟩ := h; cases hx
  | a :: l, h => by
    cases hp : p a with
    | true => exact ⟨[], a, l, rfl, hp, by simp, by rw [List.findIdx?_cons, hp]; rfl, by rw [List.find?_cons, hp]⟩
    | false =>
      obtain ⟨x, hx, hpx⟩ := h
      rcases List.mem_cons.1 hx with rfl | hx
      · rw [hp] at hpx; cases hpx
      · obtain ⟨A, c, R, h1, h2, h3, h4, h5⟩ := find_split ⟨x, hx, hpx⟩
        refine ⟨a :: A, c, R, by rw [h1]; rfl, h2, fun b hb => ?_, ?_, ?_⟩
        · rcases List.mem_cons.1 hb with rfl | hb
          · exact hp
          · exact h3 b hb
        · rw [List.findIdx?_cons, hp, h4]; simp
        · rw [List.find?_cons, hp]; exact h5
end Go.Proofs.YtjplcdeaedflpaaGreatDoor.PL
namespace Go.Proofs.YtjplcdeaedflpaaGreatDoor.PL
open Go.Proofs Go.RowKit
set_option linter.unusedVariables false
set_option linter.unusedSimpArgs false
attribute [local go_sem] Oper.semAt_some
/-- a box's value -/
theorem box_val {w0 : Bs} {Γ : Gh} {H : List HO} {w : World} (hr : R w0 Γ H w) {k b0 : Nat} {x : AV} (hk : H[k]? = some (.box [x])) (hB : Γ.B k = some b0) : ∃ v, w.cell? ⟨b0, 0, none⟩ = some v ∧ VR Γ x v := by
  obtain ⟨bs, hobj, _⟩ := hr.obj
  obtain ⟨_, h1, ⟨vals, e, h2, h3⟩, h4, h5⟩ := hobj k _ hk rfl
  rw [hB] at h1
  injection h1 with h1
  rw [← h1] at h2
  obtain ⟨vl, hvl⟩ : ∃ vl, vl = vals.toList := ⟨_, rfl⟩
  rw [← hvl] at h3
  cases h3 with
  | @cons _ v _ _ h t =>
  cases t
  refine ⟨v, ?_, h⟩
  have hv0 : vals[0]? = some v := by rw [← Array.getElem?_toList, ← hvl]; rfl
  simp [World.cell?, h2, hv0]
/-- numbers that stay, in memory -/
theorem ints_val {w0 : Bs} {Γ : Gh} {H : List HO} {w : World} (hr : R w0 Γ H w) {own : Own} {l : List Int} {v : Value} (h : VR Γ (.sl own (ints' l)) v) (h0 : l ≠ []) :
    ∃ b o cap, v = .slice (some ⟨b, o, none⟩) l.length cap ∧ ∀ (w0 : Bs) (Γ' : Gh) (H' : List HO) (w' : World), Gh.Le Γ Γ' → R w0 Γ' H' w' → ∀ j, j < l.length → w'.cell? ⟨b, o + j, none⟩ = some (.int .i64 (l[j]?.getD 0)) := by
  generalize hxs : ints' l = xs at h
  cases h with
  | @sl0 own a cap ho =>
    rw [avs_eq_nil] at hxs
    exact absurd hxs h0
  | @sl own xs vs b o cap n sz hn hs h1' h' hi ho hc =>
    subst hxs
    have e1 := VRs_ints_eq (l := l) (vs := vs) (by simpa using h')
    rw [avs_length] at hn
    refine ⟨b, o, cap, by rw [hn], fun w0 Γ' H' w' le hr' j hj => ?_⟩
    have := hr'.imm _ _ _ (le.I _ _ _ (hi j (.int .i64 l[j]) (by rw [e1]; simp [hj])))
    rw [this]
    simp [hj]
theorem nil_val {Γ : Gh} {own : Own} {v : Value} (h : VR Γ (.sl own (ints' [])) v) : ∃ p cap, v = .slice p 0 cap := by
  cases h with
  | @sl0 own a cap ho => exact ⟨a, cap, rfl⟩
  | @sl own xs vs b o cap n sz hn hs h1' h' hi ho hc => exact ⟨some ⟨b, o, none⟩, cap, by rw [hn]; rfl⟩
/-- each node but the root, and its parent -/
def parOf (ps : List Int) (n : Int) : Int := ps.getD n.toNat (-1)
def belowP (ps Z : List Int) : List (Int × Int) := (Z.filter fun n => decide (0 ≤ parOf ps n)).map fun n => (n, parOf ps n)
abbrev halfIn (p : Int × Int) : List AV := [.int .i64 p.1, .int .i64 p.2]
theorem below_next {ps Z : List Int} {k : Nat} (h : k < Z.length) : belowP ps (Z.take (k + 1)) = belowP ps (Z.take k) ++ if 0 ≤ parOf ps Z[k] then [(Z[k], parOf ps Z[k])] else [] := by
  unfold belowP
  rw [take_next h, List.filter_append, List.map_append]
  by_cases hp : 0 ≤ parOf ps Z[k] <;> simp [hp]
theorem below_split (ps Z : List Int) (k : Nat) : belowP ps Z = belowP ps (Z.take k) ++ belowP ps (Z.drop k) := by
  unfold belowP
  rw [← List.map_append, ← List.filter_append, List.take_append_drop]
theorem below_at {ps Z : List Int} {k : Nat} (h : k < Z.length) (hp : 0 ≤ parOf ps Z[k]) : (belowP ps (Z.take k)).length < (belowP ps Z).length ∧ ((belowP ps Z).map halfIn).getD (belowP ps (Z.take k)).length [] = [.int .i64 Z[k], .int .i64 (parOf ps Z[k])] := by
  have h1 := below_next (ps := ps) h
  rw [if_pos hp] at h1
  have h2 := below_split ps Z (k + 1)
  rw [h1, List.append_assoc] at h2
  rw [h2]
  refine ⟨by simp, ?_⟩
  rw [List.map_append, List.getD_eq_getElem?_getD, List.getElem?_append_right (by simp)]
  simp
theorem down_in {ps : List Int} {x : Int} (h : x ∈ downI (heldI ps)) : heldI ps = ps ∧ ∃ m : Nat, x = m ∧ m < ps.length := by
  have hx := (downI_of (heldI ps)).1.mem_iff.1 h
  unfold upTo at hx
  obtain ⟨m, hm, rfl⟩ := List.mem_map.1 hx
  have hm := List.mem_range.1 hm
  have hh : heldI ps = ps := by
    unfold heldI at hm ⊢
    split at hm
    · rename_i ht; rw [if_pos ht]
    · simp at hm
  rw [hh] at hm
  exact ⟨hh, m, rfl, hm⟩
set_option maxRecDepth 100000 in
set_option maxHeartbeats 2000000 in
theorem below_it (ps : List Int) (hl : ps.length < 60) (kc : Nat) : ItC Tryz.prog 105 [.ptr kc 0] ((belowP ps (downI (heldI ps))).map halfIn) (fun H => H[kc]? = some (.box [.sl .no (ints' ps)])) := by
  intro w0 l Γ1 Inv hFix hY Γ H W lb le r hInv hcaps
  obtain ⟨Z, hZ⟩ : ∃ Z, Z = downI (heldI ps) := ⟨_, rfl⟩
  have kd := T_down ps hl
  rw [← hZ] at kd hY ⊢
  cases hcaps with
  | cons h t =>
  cases t
  cases h with
  | @ptr _ _ b0 hB =>
  have hk0 := hFix 0 H hInv
  obtain ⟨v5, hc5, hv5⟩ := box_val r hk0 hB
  have hX := (TS.of_T (H := H) (K := pt (.sl .no (ints' Z)) H) kd (.cons (Cl.self (by simp)) .nil) ⟨rfl, rfl⟩) w0 Γ W [v5] r (.cons hv5 .nil)
  have hX2 := callsIn_wide (n := 0) |>.2 (hX.calls ⟨_, Tryz.func106, by kernel_rfl, by kernel_rfl⟩)
  refine callsIn_of_wp Tryz.func105 rfl trivial ?_ rfl
  simp only [Tryz.ntmps105, List.size_toArray, List.length_cons, List.length_nil, Nat.reduceAdd, Nat.reduceSub, Array.replicate_succ, Array.replicate_zero, List.push_toArray, List.append_toArray, List.nil_append, List.cons_append]
  gi_wp2
  refine ⟨trivial, hX2.mono ?_⟩
  rintro e w' ⟨Γ', v6, r6, H', rfl, le', hv6, r', rfl, rfl⟩
  by_cases hZ0 : Z = []
  · subst hZ0
    obtain ⟨p6, cap6, rfl⟩ := nil_val hv6
    gi_wp2
    gi_loopw [8] (fun i wr => i = .int .i64 0 ∧ ∃ Γ2 H2, Gh.Le Γ Γ2 ∧ R w0 Γ2 H2 wr ∧ Inv 0 H2) (fun _ _ => 0)
    case atStart => exact ⟨rfl, Γ', _, le', r', hInv⟩
    case round =>
      obtain ⟨rfl, Γ2, H2, le2, r2, hi2⟩ := hrel
      gi_wp2
      go_end0
      exact ⟨⟨_, rfl⟩, Γ2, H2, le2, r2, hi2⟩
  · have hin : ∀ k (h : k < Z.length), ∃ m : Nat, Z[k] = m ∧ m < ps.length := fun k h => by
      have := List.getElem_mem h
      subst hZ
      exact (down_in this).2
    have hZl : 0 < Z.length := List.length_pos_iff.2 hZ0
    have hZn : Z.length < 60 := by
      have h1 := heldI_len ps
      rw [hZ, downI_len]
      omega
    clear hX hX2 hk0 hv5 hc5 kd hZ
    have hps0 : ps ≠ [] := by
      obtain ⟨m, _, hm⟩ := hin 0 hZl
      intro h
      rw [h] at hm
      cases hm
    obtain ⟨b6, o6, cap6, rfl, hcz⟩ := ints_val r' hv6 hZ0
    gi_wp2
    gi_loopw [8] (fun i wr => ∃ k : Nat, k ≤ Z.length ∧ i = .int .i64 k ∧ ∃ Γ2 H2, Gh.Le Γ' Γ2 ∧ R w0 Γ2 H2 wr ∧ Inv (belowP ps (Z.take k)).length H2) (fun i _ => Z.length - (intOf i).toNat)
    case atStart => exact ⟨0, Nat.zero_le _, rfl, Γ', _, Gh.Le.refl _, r', hInv⟩
    case round =>
      obtain ⟨k, hk, rfl, Γ2, H2, le2, r2, hi2⟩ := hrel
      have hw : wrap64 ((k : Int) + 1) = (k : Int) + 1 := by unfold wrap64; omega
      by_cases hlt : k < Z.length
      · obtain ⟨m, hm1, hm2⟩ := hin k hlt
        have hcell := hcz w0 Γ2 H2 wr le2 r2 k hlt
        have hzk : Z[k]?.getD 0 = (m : Int) := by rw [List.getElem?_eq_getElem hlt]; exact hm1
        rw [hzk] at hcell
        obtain ⟨v7, hc7, hv7⟩ := box_val r2 (hFix _ H2 hi2) ((le'.trans le2).B _ _ hB)
        obtain ⟨b7, o7, cap7, rfl, hcp⟩ := ints_val r2 hv7 hps0
        have hpar := hcp w0 Γ2 H2 wr (Gh.Le.refl _) r2 m hm2
        obtain ⟨p, hp⟩ : ∃ p, p = ps[m]?.getD 0 := ⟨_, rfl⟩
        rw [← hp] at hpar
        have hpo : parOf ps Z[k] = p := by
          unfold parOf
          rw [hm1, Int.toNat_natCast, List.getD_eq_getElem?_getD, List.getElem?_eq_getElem hm2, hp, List.getElem?_eq_getElem hm2]
          rfl
        have hnx := below_next (ps := ps) hlt
        by_cases h0 : 0 ≤ p
        · have hat := below_at hlt (by rw [hpo]; exact h0)
          rw [hpo] at hnx hat
          rw [if_pos h0] at hnx
          rw [hm1] at hat
          obtain ⟨fn, tmps, assign, body, hy, hR⟩ := hY _ Γ2 H2 wr [.int .i64 (m : Int), .int .i64 p] (by rw [List.length_map]; exact hat.1) ((le.trans le').trans le2) r2 hi2 (by rw [hat.2]; exact .cons (.int _ _) (.cons (.int _ _) .nil))
          clear hp hcp hv7 hzk hat hcz 
          gi_wp2
          refine hR.mono ?_
          rintro e W3 ⟨rfl, Γ3, H3, le3, r3, hi3⟩
          gi_wp2
          go_roundw
          case rel => exact ⟨k + 1, by omega, by simp [hw], Γ3, H3, le2.trans le3, r3, by rw [hnx, List.length_append]; exact hi3⟩
          case measure => simp [intOf, hw]; omega
        · rw [hpo, if_neg h0, List.append_nil] at hnx
          clear hp hcp hv7 hzk hcz
          gi_wp2
          refine ⟨fun _ h => trivial, ?_⟩
          gi_wp2
          go_roundw
          case rel => exact ⟨k + 1, by omega, by simp [hw], Γ2, H2, le2, r2, by rw [hnx]; exact hi2⟩
          case measure => simp [intOf, hw]; omega
      · obtain rfl : k = Z.length := by omega
        rw [List.take_length] at hi2
        clear hcz
        gi_wp2
        go_end0
        exact ⟨⟨_, rfl⟩, Γ2, H2, le'.trans le2, r2, by rw [List.length_map]; exact hi2⟩
end Go.Proofs.YtjplcdeaedflpaaGreatDoor.PL
namespace Go.Proofs.YtjplcdeaedflpaaGreatDoor.PL
open Go.Proofs
set_option linter.unusedVariables false
set_option linter.unusedSimpArgs false
structure Col where
  name : ByteArray
  kind : Int
abbrev Col.av (c : Col) : AV := .agg [.str c.name, .int .i64 c.kind]
instance : Sized Col.av 2 := ⟨fun _ => rfl⟩
instance : Plain Col.av := ⟨fun _ => rfl⟩
structure Tab where
  name : ByteArray
  cols : List Col
  rows : List (List Val)
abbrev Tab.cs (t : Tab) : List AV := [.str t.name, .sl .no (avs Col.av t.cols), .sl .no (rows' t.rows)]
abbrev Tab.av (t : Tab) : AV := .agg t.cs
instance : Sized Tab.av 3 := ⟨fun _ => rfl⟩
instance : Plain Tab.av := ⟨fun _ => by simp⟩
instance : LawfulBEq ByteArray where
  eq_of_beq {a b} h := by rw [bytes_beq] at h; simpa using h
  rfl {a} := by rw [bytes_beq]; simp
end Go.Proofs.YtjplcdeaedflpaaGreatDoor.PL
namespace Go.Proofs.YtjplcdeaedflpaaGreatDoor.PL
open Go.Proofs
set_option linter.unusedVariables false
set_option linter.unusedSimpArgs false

theorem T_same04 (r : List Val) (hl : r.length < 4611686018427387904) : T Tryz.prog 47 [rowA r, rowA r] (.bool true) := by
  refine T.intro (TS.body mix Tryz.func47 (by kernel_rfl) rfl (by kernel_rfl) (by simp) ?_)
  simp
  refine vc_loop (fun i : Nat => r.length - i) (fun i e H => e 0 = rowA r ∧ e 1 = rowA r ∧ e 5 = .int .i64 i ∧ i ≤ r.length) 0 ?_ ?_
  · simp
  rintro i e H ⟨h0, h1, h5, hi⟩
  by_cases h : i < r.length
  · have ew := wrap_next h (by omega)
    simp [h0, h1, h5, h]
    refine TDK.call' (T_rsame r[i] r[i]) (by simp) ?_
    simp [h0, h1, h5, h]
    exact ⟨i + 1, by omega, ew, by omega⟩
  · have : i = r.length := by omega
    subst this
    simp [h0, h1, h5]
theorem T_sameList04 (rs : List (List Val)) (hl : rs.length < 4611686018427387904) (hr : ∀ r, r ∈ rs → r.length < 4611686018427387904) : T Tryz.prog 50 [.sl .no (rows' rs), .sl .no (rows' rs)] (.bool true) := by
  refine T.intro (TS.body mix Tryz.func50 (by kernel_rfl) rfl (by kernel_rfl) (by simp) ?_)
  simp
  refine vc_loop (fun i : Nat => rs.length - i) (fun i e H => e 0 = .sl .no (rows' rs) ∧ e 1 = .sl .no (rows' rs) ∧ e 5 = .int .i64 i ∧ i ≤ rs.length) 0 ?_ ?_
  · simp
  rintro i e H ⟨h0, h1, h5, hi⟩
  by_cases h : i < rs.length
  · have ew := wrap_next h (by omega)
    have hm := hr _ (List.getElem_mem h)
    simp [h0, h1, h5, h]
    refine TDK.call' (T_same04 rs[i] hm) (by simp) ?_
    simp [h0, h1, h5, h]
    exact ⟨i + 1, by omega, ew, by omega⟩
  · have : i = rs.length := by omega
    subst this
    simp [h0, h1, h5]


end Go.Proofs.YtjplcdeaedflpaaGreatDoor.PL
namespace Go.Proofs.YtjplcdeaedflpaaGreatDoor.PL
open Go.Proofs
set_option linter.unusedVariables false
set_option linter.unusedSimpArgs false
instance : Selfs Val.av := ⟨fun a x h => by simp at h; rcases h with rfl | rfl | rfl <;> simp⟩
def GrowN (sz : Nat) (H : List HO) (x : AV) (xs : List AV) : Prop := (xs = [] ∧ (x = .sl .nil [] ∨ x = .sl .exact [])) ∨ ∃ t, x = .sl (.tok t) xs ∧ H[t]? = some (.spare xs.length sz)
theorem GrowN.own {sz : Nat} {H : List HO} {x : AV} {xs : List AV} (h : GrowN sz H x xs) : ∃ own, x = .sl own xs := by
  rcases h with ⟨rfl, h | h⟩ | ⟨t, h, _⟩
  · exact ⟨_, h⟩
  · exact ⟨_, h⟩
  · exact ⟨_, h⟩
end Go.Proofs.YtjplcdeaedflpaaGreatDoor.PL
namespace Go.Proofs.YtjplcdeaedflpaaGreatDoor.PL
open Go.Proofs
set_option linter.unusedVariables false
set_option linter.unusedSimpArgs false
def zV4 : Val := ⟨0, 0, ByteArray.empty⟩
def nuls (n : Nat) : List Val := List.replicate n zV4
def nulN (k : Int) : Nat := (min (max k 0) 65536).toNat
theorem nuls_flat (n : Nat) : (vals' (nuls n)).flatMap AV.cells = repeatA [.int .i64 0, .int .i64 0, .str ByteArray.empty] n := by
  induction n with
  | zero => rfl
  | succ n ih =>
    have e : vals' (nuls (n + 1)) = Val.av zV4 :: vals' (nuls n) := by unfold nuls; rw [List.replicate_succ]; rfl
    rw [e, List.flatMap_cons, ih, repeatA]
    rfl
theorem S_nulls (H : List HO) (k : Int) : TS Tryz.prog 119 [.int .i64 k] H (pt (.mv H.length (nulN k) 3 0 (nulN k)) (H ++ [.row (nulN k) 3 ((vals' (nuls (nulN k))).flatMap AV.cells)])) := by
  have e : (if 65536 < if k < 0 then 0 else k then 65536 else if k < 0 then 0 else k) = (nulN k : Int) := by
    unfold nulN
    split <;> split <;> omega
  have hb : nulN k ≤ 65536 := by unfold nulN; omega
  refine TS.body mix Tryz.func119 (by kernel_rfl) rfl (by kernel_rfl) (by simp) ?_
  simp
  rw [e, nuls_flat]
  simp
  omega
def pickF (r : List Val) (p : Int) : Val := if 0 ≤ p ∧ p < r.length then r.getD p.toNat zV4 else zV4
theorem pickF_in {r : List Val} {k : Nat} (h : k < r.length) : pickF r k = r[k] := by
  unfold pickF
  rw [if_pos (by omega)]
  simp [h]
theorem pickF_out {r : List Val} {p : Int} (h : ¬ (0 ≤ p ∧ p < r.length)) : pickF r p = zV4 := if_neg h
theorem T_pick4 (r : List Val) (ps : List Int) (hr : r.length < 4611686018427387904) (hp : ps.length ≤ 1000) : T Tryz.prog 100 [rowA r, .sl .no (ints' ps)] (rowA (ps.map (pickF r))) := by
  have k0 := S_nulls [] (ps.length : Int)
  have hN : nulN (ps.length : Int) = ps.length := by unfold nulN; omega
  rw [hN] at k0
  refine T.introF (TS.body mix Tryz.func100 (by kernel_rfl) rfl (by kernel_rfl) (by simp) ?_)
  simp
  refine TS.pt k0 ?_
  simp
  refine vc_loop (fun i : Nat => ps.length - i) (fun i e H => e 0 = rowA r ∧ e 5 = .mv 0 ps.length 3 0 ps.length ∧ e 11 = .sl .no (ints' ps) ∧ e 12 = .int .i64 ps.length ∧ e 13 = .int .i64 i ∧ i ≤ ps.length ∧ ∃ M : List Val, M = (ps.map (pickF r)).take i ++ nuls (ps.length - i) ∧ H = [.row ps.length 3 ((vals' M).flatMap AV.cells)]) 0 ?_ ?_
  · simp
  rintro i e H ⟨e0, e5, e11, e12, e13, hi, M, hM, rfl⟩
  by_cases hlt : i < ps.length
  · have ew := wrap_next hlt (by omega)
    have hMl : M.length = ps.length := by rw [hM]; simp [nuls]; omega
    have hMi : i < M.length := by omega
    have htl : ((ps.map (pickF r)).take i).length = i := by simp; omega
    have hnz : nuls (ps.length - i) = zV4 :: nuls (ps.length - (i + 1)) := by
      unfold nuls
      rw [show ps.length - i = (ps.length - (i + 1)) + 1 by omega, List.replicate_succ]
    rw [hnz] at hM
    have hat : M[i] = zV4 := by
      subst hM
      rw [List.getElem_append_right (by omega)]
      simp [htl]
    have hnx : M.set i (pickF r ps[i]) = (ps.map (pickF r)).take (i + 1) ++ nuls (ps.length - (i + 1)) := by
      rw [hM, List.set_append, if_neg (by omega), htl, Nat.sub_self, List.set_cons_zero, take_next (by simpa using hlt), List.append_assoc]
      simp
    have hml := flatA_len (f := Val.av) (sz := 3) M
    rw [List.length_flatMap] at hml
    by_cases hin : 0 ≤ ps[i] ∧ ps[i] < r.length
    · obtain ⟨k, hk, ek⟩ : ∃ k : Nat, k < r.length ∧ ps[i] = k := ⟨ps[i].toNat, by omega, by omega⟩
      have hput := flatA_put (f := Val.av) M hMi (k := 0) (new := (r[k]).av.cells) (a := r[k]) (by simp) (by simp)
      rw [ek, pickF_in hk] at hnx
      rw [hnx] at hput
      have h0k : (0 : Int) ≤ k := by omega
      simp at hput
      simp [e0, e5, e11, e12, e13, hlt, ek, hk, h0k]
      exact ⟨by rw [hml]; omega, i + 1, by omega, ew, by omega, hput⟩
    · rw [pickF_out hin] at hnx
      have hsame : M.set i zV4 = M := by rw [← hat]; exact List.set_getElem_self hMi
      rw [hsame] at hnx
      simp [e0, e5, e11, e12, e13, hlt]
      refine condK_of (fun h => absurd (by simpa using h) hin) (fun h => ?_)
      simp [e0, e5, e11, e12, e13, hlt]
      exact ⟨i + 1, by omega, ew, by omega, by rw [hnx]⟩
  · have hil : i = ps.length := by omega
    subst hil
    have hM2 : M = ps.map (pickF r) := by rw [hM, List.take_of_length_le (by simp)]; simp [nuls]
    rw [hM2]
    simp [e0, e5, e11, e12, e13]
    exact Frz.mvA (f := Val.av) (sz := 3) rfl (by simp)
end Go.Proofs.YtjplcdeaedflpaaGreatDoor.PL
namespace Go.Proofs.YtjplcdeaedflpaaGreatDoor.PL
open Go.Proofs
set_option linter.unusedVariables false
set_option linter.unusedSimpArgs false
theorem ints_vals (a b : Int) : ints a b = -1 ∨ ints a b = 0 ∨ ints a b = 1 := by unfold ints; grind
theorem order_vals (a b : Val) : order a b = -1 ∨ order a b = 0 ∨ order a b = 1 := by
  unfold order
  split
  · exact ints_vals _ _
  · split
    · exact ints_vals _ _
    · exact texts_vals _ _
end Go.Proofs.YtjplcdeaedflpaaGreatDoor.PL
namespace Go.Proofs.YtjplcdeaedflpaaGreatDoor.PL
open Go.Proofs
set_option linter.unusedVariables false
set_option linter.unusedSimpArgs false
def numB (n : Nat) : ByteArray := ⟨(Lib.decDigits n).toArray⟩
theorem T_itoaN (n : Nat) (h : n < 9223372036854775808) : T Tryz.prog 131 [.int .i64 n] (.str (numB n)) := by
  intro I w vs hg hi hv
  cases hv with
  | cons h1 t =>
  cases t
  cases h1
  refine .inl ⟨⟨_, Tryz.func131, by kernel_rfl, by kernel_rfl⟩, (Tryz.internal_strconv_Itoa n (by omega) (by omega) w hg).mono ?_⟩
  rintro e w' ⟨rfl, k, os, rfl⟩
  rw [Lib.itoa_nonneg]
  exact ⟨I, _, rfl, fun _ _ _ h => h, fun _ _ _ h => .inl h, .str _, Go.Lib.below_grow _ _ (Nat.le_refl _) _ _⟩
theorem T_itoa (n : Nat) (h : n < 9223372036854775808) : T Tryz.prog 115 [.int .i64 n] (.str (numB n)) := by
  have k := T_itoaN n h
  refine T.intro (TS.body mix Tryz.func115 (by kernel_rfl) rfl (by kernel_rfl) (by simp) ?_)
  simp
  refine TS.callW k (Dws.self (by simp)) ?_
  simp
theorem numB_size {n : Nat} (h : n < 18446744073709551616) : 1 ≤ (numB n).size ∧ (numB n).size ≤ 20 := by
  have h1 : (numB n).size = (Lib.decDigits n).length := by simp [numB, ByteArray.size]
  rw [h1, Lib.decDigits_length]
  exact ⟨Lib.nDigits_pos n, Lib.nDigits_le20 n h⟩

def itemV (v : Val) : ByteArray := numB (keyV v).size ++ ⟨#[58]⟩ ++ keyV v
def keyR : List Val → ByteArray
  | [] => ⟨#[]⟩
  | v :: r => itemV v ++ keyR r
theorem keyR_app : ∀ a b : List Val, keyR (a ++ b) = keyR a ++ keyR b
  | [], b => by simp [keyR]
  | v :: a, b => by simp only [List.cons_append, keyR, keyR_app a b, ByteArray.append_assoc]
theorem keyR_next {r : List Val} {i : Nat} (hi : i < r.length) : keyR (r.take (i + 1)) = keyR (r.take i) ++ itemV r[i] := by
  rw [take_next hi, keyR_app]
  congr 1
  simp [keyR]
theorem keyV_size (v : Val) : (keyV v).size ≤ v.s.size + 9 := by
  unfold keyV
  split
  · show 1 ≤ _; omega
  split
  · show 9 ≤ _; omega
  split
  · rw [ByteArray.size_append]; show 1 + _ ≤ _; omega
  · show 0 ≤ _; omega
theorem itemV_size {v : Val} (hv : v.s.size ≤ 2000) : (itemV v).size ≤ 2030 := by
  have h1 := keyV_size v
  have h2 := numB_size (n := (keyV v).size) (by omega)
  unfold itemV
  rw [ByteArray.size_append, ByteArray.size_append]
  have : ByteArray.size ⟨#[58]⟩ = 1 := rfl
  omega
theorem keyR_size : ∀ {r : List Val}, (∀ v, v ∈ r → v.s.size ≤ 2000) → (keyR r).size ≤ 2030 * r.length
  | [], _ => by simp [keyR]
  | v :: r, h => by
    have h1 := itemV_size (h v List.mem_cons_self)
    have h2 := keyR_size (r := r) fun x hx => h x (List.mem_cons_of_mem _ hx)
    simp only [keyR, ByteArray.size_append, List.length_cons]
    omega
def i64V (r : List Val) : Prop := ∀ v, v ∈ r → -9223372036854775808 ≤ v.i ∧ v.i < 9223372036854775808
theorem T_rowKey (r : List Val) (hl : r.length ≤ 40) (hi : i64V r) (hs : ∀ v, v ∈ r → v.s.size ≤ 2000) : T Tryz.prog 95 [rowA r] (.str (keyR r)) := by
  refine T.intro (TS.body mix Tryz.func95 (by kernel_rfl) rfl (by kernel_rfl) (by simp) ?_)
  simp
  refine vc_loop (fun i : Nat => r.length - i) (fun i e H => e 3 = .str (keyR (r.take i)) ∧ e 7 = rowA r ∧ e 8 = .int .i64 r.length ∧ e 9 = .int .i64 i ∧ i ≤ r.length) 0 ?_ ?_
  · simp [keyR]
  rintro i e H ⟨e3, e7, e8, e9, hil⟩
  by_cases hlt : i < r.length
  · have ew := wrap_next hlt (by omega)
    have hm := List.getElem_mem hlt
    have k1 := T_keyW r[i] (hi _ hm).1 (hi _ hm).2 (by have := hs _ hm; omega)
    have hz := keyV_size r[i]
    have hz2 := hs _ hm
    have k2 := T_itoa (keyV r[i]).size (by omega)
    have hn2 := numB_size (n := (keyV r[i]).size) (by omega)
    have hp : (keyR (r.take i)).size ≤ 2030 * 40 := Nat.le_trans (keyR_size fun v hv => hs v (List.mem_of_mem_take hv)) (by rw [List.length_take]; omega)
    have h58 : ByteArray.size ⟨#[58]⟩ = 1 := rfl
    have hnx := keyR_next hlt
    simp [e3, e7, e8, e9, hlt]
    refine TS.callW k1 (Dws.self (by simp)) ?_
    simp [e3, e7, e8, e9, hlt]
    refine TS.callW k2 (Dws.self (by simp)) ?_
    simp [e3, e7, e8, e9, hlt]
    rw [h58]
    exact ⟨by omega, by omega, by omega, i + 1, by omega, by rw [hnx]; simp only [itemV, ByteArray.append_assoc], ew, by omega⟩
  · have : i = r.length := by omega
    subst this
    simp [e3, e7, e8, e9]

instance decVal : DecidableEq Val := fun a b => if h : a.k = b.k ∧ a.i = b.i ∧ a.s = b.s then isTrue (by cases a; cases b; simp_all) else isFalse (by rintro rfl; simp at h)

end Go.Proofs.YtjplcdeaedflpaaGreatDoor.PL
namespace Go.Proofs.YtjplcdeaedflpaaGreatDoor.PL
open Go.Proofs
set_option linter.unusedVariables false
set_option linter.unusedSimpArgs false
theorem T_lof (b : Bool) : T Tryz.prog 155 [.bool b] (.int .i64 (if b then 1 else 0)) := by
  refine T.intro (TS.body mix Tryz.func155 (by kernel_rfl) rfl (by kernel_rfl) (by simp) ?_)
  cases b <;> simp
theorem T_lis (a : Int) : T Tryz.prog 117 [.int .i64 a] (.bool (decide (a = 1))) := by
  refine T.intro (TS.body mix Tryz.func117 (by kernel_rfl) rfl (by kernel_rfl) (by simp) ?_)
  simp

end Go.Proofs.YtjplcdeaedflpaaGreatDoor.PL
namespace Go.Proofs.YtjplcdeaedflpaaGreatDoor.PL
open Go.Proofs
set_option linter.unusedVariables false
set_option linter.unusedSimpArgs false
def alike (a b : Val) : Prop := a.k = b.k ∧ (a.k = 1 ∨ a.k = 2)
instance (a b : Val) : Decidable (alike a b) := by unfold alike; infer_instance
def eqT (a b : Val) : Int := if alike a b then (if order a b = 0 then 1 else 0) else 2
def testT (op : Int) (a b : Val) : Int :=
  if alike a b then
    (if op = 1 then if order a b = 0 then 1 else 0 else if op = 2 then if order a b = 0 then 0 else 1 else if op = 3 then if order a b < 0 then 1 else 0
    else if op = 4 then if order a b ≤ 0 then 1 else 0 else if op = 5 then if 0 < order a b then 1 else 0 else if op = 6 then if 0 ≤ order a b then 1 else 0 else 2) else 2
theorem T_eq1 (n : Int) : T Tryz.prog 133 [.int .i64 n] (.bool (decide (n = 0))) := by
  refine T.intro (TS.body mix Tryz.func133 (by kernel_rfl) rfl (by kernel_rfl) (by simp) ?_)
  simp

theorem T_cmp' (a b : Val) : T Tryz.prog 154 [a.av, b.av] (.tup [.int .i64 (if alike a b then order a b else 0), .bool (decide (alike a b))]) := by
  have := T_cmp a b
  unfold alike
  exact this
theorem T_lcmp {f : FuncId} {p : Int → Bool} (hp : ∀ n, T Tryz.prog f [.int .i64 n] (.bool (p n))) (a b : Val) : T Tryz.prog 132 [a.av, b.av, .fn (.func f) [] []] (.int .i64 (if alike a b then (if p (order a b) then 1 else 0) else 2)) := by
  refine T.intro (TS.body mix Tryz.func132 (by kernel_rfl) rfl (by kernel_rfl) (by simp) ?_)
  simp
  (first | refine TS.call' (T_cmp' a b) (by simp) ?_ | refine TDK.call' (T_cmp' a b) (by simp) ?_ | refine GTK.call (fun _ => ⟨T_cmp' a b, by simp⟩) ?_ | refine TS.call (T_cmp' a b) (by simp) ?_ | refine TDK.call (T_cmp' a b) (by simp) ?_); simp
  by_cases h : alike a b
  · simp [h]
    (first | refine TS.call' (hp (order a b)) (by simp) ?_ | refine TDK.call' (hp (order a b)) (by simp) ?_ | refine GTK.call (fun _ => ⟨hp (order a b), by simp⟩) ?_ | refine TS.call (hp (order a b)) (by simp) ?_ | refine TDK.call (hp (order a b)) (by simp) ?_); simp
    (first | refine TS.call' (T_lof (p (order a b))) (by simp) ?_ | refine TDK.call' (T_lof (p (order a b))) (by simp) ?_ | refine GTK.call (fun _ => ⟨T_lof (p (order a b)), by simp⟩) ?_ | refine TS.call (T_lof (p (order a b))) (by simp) ?_ | refine TDK.call (T_lof (p (order a b))) (by simp) ?_); simp
  · simp [h]
theorem T_leq (a b : Val) : T Tryz.prog 118 [a.av, b.av] (.int .i64 (eqT a b)) := by
  refine T.intro (TS.body mix Tryz.func118 (by kernel_rfl) rfl (by kernel_rfl) (by simp) ?_)
  simp
  (first | refine TS.call' (T_lcmp T_eq1 a b) (by simp) ?_ | refine TDK.call' (T_lcmp T_eq1 a b) (by simp) ?_ | refine GTK.call (fun _ => ⟨T_lcmp T_eq1 a b, by simp⟩) ?_ | refine TS.call (T_lcmp T_eq1 a b) (by simp) ?_ | refine TDK.call (T_lcmp T_eq1 a b) (by simp) ?_); simp
  simp [eqT]


theorem T_rcmp' (a b : Val) (ha : a.s.size < 4611686018427387904) : T Tryz.prog 128 [a.av, b.av] (.tup [.int .i64 (if alike a b then order a b else 0), .bool (decide (alike a b))]) := by
  have := T_rcmp a b ha
  unfold alike
  exact this
theorem T_rtest (op : Int) (a b : Val) (ha : a.s.size < 4611686018427387904) : T Tryz.prog 111 [.int .i64 op, a.av, b.av] (.int .i64 (testT op a b)) := by
  have ho := order_vals a b
  refine T.intro (TS.body mix Tryz.func111 (by kernel_rfl) rfl (by kernel_rfl) (by simp) ?_)
  simp
  (first | refine TS.call' (T_rcmp' a b ha) (by simp) ?_ | refine TDK.call' (T_rcmp' a b ha) (by simp) ?_ | refine GTK.call (fun _ => ⟨T_rcmp' a b ha, by simp⟩) ?_ | refine TS.call (T_rcmp' a b ha) (by simp) ?_ | refine TDK.call (T_rcmp' a b ha) (by simp) ?_); simp
  by_cases hal : alike a b
  · simp [hal]
    refine condK_of (fun h => ?_) (fun h => ?_)
    · simp
      simp at h
      unfold testT
      grind
    simp at h
    have hop : op = 1 ∨ op = 2 ∨ op = 3 ∨ op = 4 ∨ op = 5 ∨ op = 6 := by omega
    rcases hop with rfl | rfl | rfl | rfl | rfl | rfl <;> rcases ho with ho | ho | ho <;> simp [ho, testT, hal]
  · simp [hal, testT]


end Go.Proofs.YtjplcdeaedflpaaGreatDoor.PL
