/- Ears of hypergraphs, in plain words: whichever goes first, the others may go; parents by ears make ways that tell what both ends have. -/
import Derived.Test.YtahpoodcmeoabaaFGyo7
set_option linter.unusedVariables false
set_option linter.unusedSimpArgs false
namespace Go.Proofs.Ytahpoodcmeoabaa.PL
namespace Gy
variable {V : Nat → Int → Prop}
/-- an ear, of those that are left -/
def Ear (V : Nat → Int → Prop) (L : Nat → Prop) (i p : Nat) : Prop := L i ∧ L p ∧ p ≠ i ∧ ∀ k, L k → k ≠ i → ∀ v, V i v → V k v → V p v
def less (L : Nat → Prop) (i : Nat) : Nat → Prop := fun k => L k ∧ k ≠ i
/-- all but one may go -/
inductive Elm (V : Nat → Int → Prop) : (Nat → Prop) → Prop
  | one {L : Nat → Prop} (r : Nat) (h : ∀ k, L k ↔ k = r) : Elm V L
  | step {L : Nat → Prop} (i p : Nat) (h : Ear V L i p) (t : Elm V (less L i)) : Elm V L
def swp (M : Nat → Prop) (i e : Nat) : Nat → Prop := fun k => (M k ∧ k ≠ i) ∨ (M i ∧ k = e)
theorem Elm.congr {L M : Nat → Prop} (h : Elm V L) (e : ∀ k, L k ↔ M k) : Elm V M := by
  have : L = M := funext fun k => propext (e k)
  rw [← this]; exact h
theorem Elm.swp {M : Nat → Prop} (h : Elm V M) : ∀ {i e : Nat}, i ≠ e → ¬ M e → (∀ k, M k → k ≠ i → ∀ v, V k v → (V i v ↔ V e v)) → Elm V (swp M i e) := by
  induction h with
  | @one L r h =>
    intro i e hie he hv
    by_cases hr : i = r
    · subst hr
      exact .one e fun k => by
        unfold Gy.swp
        constructor
        · rintro (⟨h1, h2⟩ | ⟨_, h2⟩)
          · exact absurd ((h k).1 h1) h2
          · exact h2
        · intro hk; exact .inr ⟨(h i).2 rfl, hk⟩
    · exact .one r fun k => by
        unfold Gy.swp
        constructor
        · rintro (⟨h1, h2⟩ | ⟨h1, h2⟩)
          · exact (h k).1 h1
          · exact absurd ((h i).1 h1) hr
        · intro hk; exact .inl ⟨(h k).2 hk, by rw [hk]; exact fun e => hr e.symm⟩
  | @step L j q hj t ih =>
    intro i e hie he hv
    obtain ⟨j1, j2, j3, j4⟩ := hj
    have hje : j ≠ e := fun h => he (h ▸ j1)
    have hqe : q ≠ e := fun h => he (h ▸ j2)
    have key := ih (i := i) (e := e) hie (fun h => he h.1) (fun k hk hki => hv k hk.1 hki)
    by_cases hji : j = i
    · subst hji
      refine .step e q ⟨.inr ⟨j1, rfl⟩, .inl ⟨j2, j3⟩, hqe, ?_⟩ (t.congr fun k => ?_)
      · rintro k (⟨h1, h2⟩ | ⟨_, h2⟩) hke v he' hk
        · exact j4 k h1 h2 v ((hv k h1 h2 v hk).2 he') hk
        · exact absurd h2 hke
      · unfold less Gy.swp
        constructor
        · rintro ⟨h1, h2⟩; exact ⟨.inl ⟨h1, h2⟩, fun h => he (h ▸ h1)⟩
        · rintro ⟨⟨h1, h2⟩ | ⟨_, h2⟩, h3⟩
          · exact ⟨h1, h2⟩
          · exact absurd h2 h3
    · have ext : ∀ k, Gy.swp (less L j) i e k ↔ less (Gy.swp L i e) j k := by
        intro k
        unfold less Gy.swp
        constructor
        · rintro (⟨⟨h1, h2⟩, h3⟩ | ⟨⟨h1, h2⟩, h3⟩)
          · exact ⟨.inl ⟨h1, h3⟩, h2⟩
          · exact ⟨.inr ⟨h1, h3⟩, by rw [h3]; exact fun h => hje h.symm⟩
        · rintro ⟨⟨h1, h3⟩ | ⟨h1, h3⟩, h2⟩
          · exact .inl ⟨⟨h1, h2⟩, h3⟩
          · exact .inr ⟨⟨h1, fun h => hji h.symm⟩, h3⟩
      by_cases hqi : q = i
      · subst hqi
        refine .step j e ⟨.inl ⟨j1, hji⟩, .inr ⟨j2, rfl⟩, fun h => hje h.symm, ?_⟩ (key.congr ext)
        rintro k (⟨h1, h2⟩ | ⟨_, h2⟩) hkj v hjv hk
        · exact (hv j j1 hji v hjv).1 (j4 k h1 hkj v hjv hk)
        · rw [← h2]; exact hk
      · refine .step j q ⟨.inl ⟨j1, hji⟩, .inl ⟨j2, hqi⟩, j3, ?_⟩ (key.congr ext)
        rintro k (⟨h1, h2⟩ | ⟨h1, h2⟩) hkj v hjv hk
        · exact j4 k h1 hkj v hjv hk
        · rw [h2] at hk
          exact j4 i h1 (fun h => hji h.symm) v hjv ((hv j j1 hji v hjv).2 hk)
/-- whichever ear goes first, the others may go -/
theorem Elm.less {L : Nat → Prop} (h : Elm V L) : ∀ {i p : Nat}, Ear V L i p → Elm V (less L i) := by
  induction h with
  | @one L r h =>
    rintro i p ⟨h1, h2, h3, _⟩
    exact absurd (((h p).1 h2).trans ((h i).1 h1).symm) h3
  | @step L e p1 he t ih =>
    intro i p hi
    obtain ⟨e1, e2, e3, e4⟩ := he
    obtain ⟨i1, i2, i3, i4⟩ := hi
    by_cases hie : i = e
    · subst hie; exact t
    have hie' : e ≠ i := fun h => hie h.symm
    have ext : ∀ k, Gy.less (Gy.less L e) i k ↔ Gy.less (Gy.less L i) e k := fun k => ⟨fun ⟨⟨a, b⟩, c⟩ => ⟨⟨a, c⟩, b⟩, fun ⟨⟨a, b⟩, c⟩ => ⟨⟨a, c⟩, b⟩⟩
    by_cases hpe : p = e
    · subst hpe
      by_cases hpi : p1 = i
      · subst hpi
        refine (Elm.swp t (i := p1) (e := p) hie (fun h => h.2 rfl) ?_).congr fun k => ?_
        · intro k hk hki v hkv
          exact ⟨fun h => i4 k hk.1 hki v h hkv, fun h => e4 k hk.1 hk.2 v h hkv⟩
        · unfold Gy.swp Gy.less
          constructor
          · rintro (⟨⟨h1, h2⟩, h3⟩ | ⟨_, h2⟩)
            · exact ⟨h1, h3⟩
            · rw [h2]; exact ⟨e1, hie'⟩
          · rintro ⟨h1, h2⟩
            by_cases hk : k = p
            · exact .inr ⟨⟨e2, e3⟩, hk⟩
            · exact .inl ⟨⟨h1, hk⟩, h2⟩
      · have hear : Ear V (Gy.less L p) i p1 := ⟨⟨i1, hie⟩, ⟨e2, e3⟩, hpi, fun k hk hki v hiv hkv => e4 k hk.1 hk.2 v (i4 k hk.1 hki v hiv hkv) hkv⟩
        refine .step p p1 ⟨⟨e1, hie'⟩, ⟨e2, hpi⟩, e3, fun k hk hke v hev hkv => e4 k hk.1 hke v hev hkv⟩ ((ih hear).congr ext)
    · have hear : Ear V (Gy.less L e) i p := ⟨⟨i1, hie⟩, ⟨i2, hpe⟩, i3, fun k hk hki => i4 k hk.1 hki⟩
      by_cases hpi : p1 = i
      · subst hpi
        refine .step e p ⟨⟨e1, hie'⟩, ⟨i2, i3⟩, hpe, fun k hk hke v hev hkv => i4 k hk.1 hk.2 v (e4 k hk.1 hke v hev hkv) hkv⟩ ((ih hear).congr ext)
      · refine .step e p1 ⟨⟨e1, hie'⟩, ⟨e2, hpi⟩, e3, fun k hk hke v hev hkv => e4 k hk.1 hke v hev hkv⟩ ((ih hear).congr ext)
/-- whichever stays, another one may go -/
theorem Elm.two {L : Nat → Prop} (h : Elm V L) : ∀ {r : Nat}, L r → (∃ k, L k ∧ k ≠ r) → ∃ i p, Ear V L i p ∧ i ≠ r := by
  induction h with
  | @one L r' h =>
    rintro r hr ⟨k, hk, hkr⟩
    exact absurd (((h k).1 hk).trans ((h r).1 hr).symm) hkr
  | @step L e p1 he t ih =>
    intro r hr hk
    by_cases her : e = r
    · subst her
      obtain ⟨e1, e2, e3, e4⟩ := he
      by_cases h2 : ∃ k, Gy.less L e k ∧ k ≠ p1
      · obtain ⟨i, q, ⟨i1, i2, i3, i4⟩, hip⟩ := ih (r := p1) ⟨e2, e3⟩ h2
        refine ⟨i, q, ⟨i1.1, i2.1, i3, fun k hk hki v hiv hkv => ?_⟩, i1.2⟩
        by_cases hke : k = e
        · subst hke
          exact i4 p1 ⟨e2, e3⟩ (fun h => hip h.symm) v hiv (e4 i i1.1 i1.2 v hkv hiv)
        · exact i4 k ⟨hk, hke⟩ hki v hiv hkv
      · refine ⟨p1, e, ⟨e2, e1, fun h => e3 h.symm, fun k hk hkp v hpv hkv => ?_⟩, e3⟩
        by_cases hke : k = e
        · rw [← hke]; exact hkv
        · exact absurd ⟨k, ⟨hk, hke⟩, hkp⟩ h2
    · exact ⟨e, p1, he, her⟩
theorem Elm.some {L : Nat → Prop} (h : Elm V L) : ∃ r, L r := by
  cases h with
  | one r h => exact ⟨r, (h r).2 rfl⟩
  | step i p h t => exact ⟨i, h.1⟩

/-! ### trees, by their parents -/
/-- the way up -/
inductive Up (f : Nat → Option Nat) : Nat → List Nat → Prop
  | root {r : Nat} (h : f r = none) : Up f r [r]
  | step {i p : Nat} {U : List Nat} (h : f i = some p) (t : Up f p U) : Up f i (i :: U)
theorem Up.uniq {f : Nat → Option Nat} {i : Nat} {U U' : List Nat} (h : Up f i U) (h' : Up f i U') : U = U' := by
  induction h generalizing U' with
  | root h => cases h' with
    | root _ => rfl
    | step h2 _ => rw [h] at h2; cases h2
  | step h t ih => cases h' with
    | root h2 => rw [h] at h2; cases h2
    | step h2 t2 =>
      rw [h] at h2
      cases h2
      rw [ih t2]
theorem Up.head {f : Nat → Option Nat} {i : Nat} {U : List Nat} (h : Up f i U) : ∃ U', U = i :: U' := by
  cases h with
  | root _ => exact ⟨[], rfl⟩
  | step _ _ => exact ⟨_, rfl⟩
theorem Up.mem {f : Nat → Option Nat} {i : Nat} {U : List Nat} (h : Up f i U) : i ∈ U := by
  obtain ⟨U', rfl⟩ := h.head
  simp
/-- what stands on the way stands on its way -/
theorem Up.sub {f : Nat → Option Nat} {i : Nat} {U : List Nat} (h : Up f i U) : ∀ {k : Nat}, k ∈ U → ∃ W, Up f k W ∧ (∀ x, x ∈ W → x ∈ U) ∧ W.length ≤ U.length := by
  induction h with
  | root h =>
    intro k hk
    simp at hk
    subst hk
    exact ⟨_, .root h, fun x hx => hx, Nat.le_refl _⟩
  | @step i p U h t ih =>
    intro k hk
    rcases List.mem_cons.1 hk with rfl | hk
    · exact ⟨_, .step h t, fun x hx => hx, Nat.le_refl _⟩
    · obtain ⟨W, h1, h2, h3⟩ := ih hk
      exact ⟨W, h1, fun x hx => List.mem_cons_of_mem _ (h2 x hx), by simp; omega⟩
/-- the first of one way that stands on another one -/
def meet (x y : List Nat) : Option Nat := x.find? fun k => decide (k ∈ y)
/-- is a node on the way between two? -/
def On (f : Nat → Option Nat) (a b n : Nat) : Prop := ∃ A B N m, Up f a A ∧ Up f b B ∧ Up f n N ∧ (n ∈ A ∨ n ∈ B) ∧ meet A B = some m ∧ m ∈ N
/-- parents by ears -/
inductive ElT (V : Nat → Int → Prop) (f : Nat → Option Nat) : (Nat → Prop) → Prop
  | one {L : Nat → Prop} (r : Nat) (h : ∀ k, L k ↔ k = r) (hf : f r = none) : ElT V f L
  | step {L : Nat → Prop} (i p : Nat) (h : Ear V L i p) (hf : f i = some p) (t : ElT V f (less L i)) : ElT V f L
theorem ElT.up {f : Nat → Option Nat} {L : Nat → Prop} (h : ElT V f L) : ∀ i, L i → ∃ U, Up f i U ∧ U.Nodup ∧ ∀ x, x ∈ U → L x := by
  induction h with
  | @one L r h hf =>
    intro i hi
    have : i = r := (h i).1 hi
    subst this
    exact ⟨[i], .root hf, by simp, fun x hx => by simp at hx; rw [hx]; exact hi⟩
  | @step L i p he hf t ih =>
    intro k hk
    by_cases hki : k = i
    · subst hki
      obtain ⟨U, h1, h2, h3⟩ := ih p ⟨he.2.1, he.2.2.1⟩
      refine ⟨k :: U, .step hf h1, List.nodup_cons.2 ⟨fun h => (h3 k h).2 rfl, h2⟩, fun x hx => ?_⟩
      rcases List.mem_cons.1 hx with rfl | hx
      · exact hk
      · exact (h3 x hx).1
    · obtain ⟨U, h1, h2, h3⟩ := ih k ⟨hk, hki⟩
      exact ⟨U, h1, h2, fun x hx => (h3 x hx).1⟩
theorem ElT.on {f : Nat → Option Nat} {L : Nat → Prop} (h : ElT V f L) : ∀ a b n, L a → L b → On f a b n → ∀ v, V a v → V b v → V n v := by
  induction h with
  | @one L r h hf =>
    rintro a b n ha hb ⟨A, B, N, m, hA, hB, hN, hn, hm, hmN⟩ v hva hvb
    have ea : a = r := (h a).1 ha
    have eb : b = r := (h b).1 hb
    subst ea
    subst eb
    have e1 := hA.uniq (.root hf)
    have e2 := hB.uniq (.root hf)
    subst e1
    subst e2
    have : n = b := by simpa using hn
    rw [this]; exact hva
  | @step L i p he hf t ih =>
    obtain ⟨i1, i2, i3, i4⟩ := he
    obtain ⟨P, p1, p2, p3⟩ := t.up p ⟨i2, i3⟩
    have hiP : i ∉ P := fun h => (p3 i h).2 rfl
    have hI := Up.step hf p1
    rintro a b n ha hb ⟨A, B, N, m, hA, hB, hN, hn, hm, hmN⟩ v hva hvb
    by_cases hai : a = i
    · subst hai
      have eA := hA.uniq hI
      subst eA
      by_cases hbi : b = a
      · subst hbi
        have eB := hB.uniq hI
        subst eB
        have hm2 : m = b := by simpa [meet] using hm.symm
        subst hm2
        by_cases hnm : n = m
        · rw [hnm]; exact hva
        · have hnP : n ∈ P := by
            rcases hn with h | h <;> rcases List.mem_cons.1 h with h | h <;> first | exact h | exact absurd h hnm
          obtain ⟨W, w1, w2, w3⟩ := p1.sub hnP
          have := hN.uniq w1
          subst this
          exact absurd (w2 m hmN) hiP
      · obtain ⟨B', b1, b2, b3⟩ := t.up b ⟨hb, hbi⟩
        have eB := hB.uniq b1
        subst eB
        have haB : a ∉ B := fun h => (b3 a h).2 rfl
        by_cases hna : n = a
        · rw [hna]; exact hva
        · have hm2 : meet P B = some m := by
            unfold meet at hm ⊢
            rwa [List.find?_cons_of_neg (by simpa using haB)] at hm
          have hn2 : n ∈ P ∨ n ∈ B := by
            rcases hn with h | h
            · rcases List.mem_cons.1 h with h | h
              · exact absurd h hna
              · exact .inl h
            · exact .inr h
          exact ih p b n ⟨i2, i3⟩ ⟨hb, hbi⟩ ⟨P, B, N, m, p1, hB, hN, hn2, hm2, hmN⟩ v (i4 b hb hbi v hva hvb) hvb
    · obtain ⟨A', a1, a2, a3⟩ := t.up a ⟨ha, hai⟩
      have eA := hA.uniq a1
      subst eA
      have hiA : i ∉ A := fun h => (a3 i h).2 rfl
      by_cases hbi : b = i
      · subst hbi
        have eB := hB.uniq hI
        subst eB
        have hm2 : meet A P = some m := by
          rw [← hm]
          unfold meet
          have : ∀ l : List Nat, (∀ x, x ∈ l → x ≠ b) → l.find? (fun k => decide (k ∈ P)) = l.find? (fun k => decide (k ∈ b :: P)) := by
            intro l hl
            induction l with
            | nil => rfl
            | cons x l ih2 =>
              have hx := hl x (by simp)
              have := ih2 fun y hy => hl y (by simp [hy])
              simp only [List.find?_cons, List.mem_cons, hx, false_or]
              rw [this]
              simp only [List.mem_cons]
          exact this A fun x hx h => hiA (h ▸ hx)
        by_cases hnb : n = b
        · rw [hnb]; exact hvb
        · have hn2 : n ∈ A ∨ n ∈ P := by
            rcases hn with h | h
            · exact .inl h
            · rcases List.mem_cons.1 h with h | h
              · exact absurd h hnb
              · exact .inr h
          exact ih a p n ⟨ha, hai⟩ ⟨i2, i3⟩ ⟨A, P, N, m, hA, p1, hN, hn2, hm2, hmN⟩ v hva (i4 a ha hai v hvb hva)
      · exact ih a b n ⟨ha, hai⟩ ⟨hb, hbi⟩ ⟨A, B, N, m, hA, hB, hN, hn, hm, hmN⟩ v hva hvb
/-- ears, one after the other -/
inductive Run (V : Nat → Int → Prop) : (Nat → Prop) → List (Nat × Nat) → (Nat → Prop) → Prop
  | nil {L : Nat → Prop} : Run V L [] L
  | cons {L L' : Nat → Prop} {i p : Nat} {es : List (Nat × Nat)} (h : Ear V L i p) (t : Run V (less L i) es L') : Run V L ((i, p) :: es) L'
theorem Run.mem {L L' : Nat → Prop} {es : List (Nat × Nat)} (h : Run V L es L') : (∀ x, x ∈ es → L x.1 ∧ L x.2 ∧ ¬ L' x.1) ∧ ∀ k, L' k → L k := by
  induction h with
  | nil => exact ⟨fun x hx => (by cases hx), fun k h => h⟩
  | @cons L L' i p es he t ih =>
    refine ⟨fun x hx => ?_, fun k hk => (ih.2 k hk).1⟩
    rcases List.mem_cons.1 hx with rfl | hx
    · exact ⟨he.1, he.2.1, fun h => (ih.2 _ h).2 rfl⟩
    · have := ih.1 x hx
      exact ⟨this.1.1, this.2.1.1, this.2.2⟩
theorem Run.someL {L L' : Nat → Prop} {es : List (Nat × Nat)} (h : Run V L es L') (hs : ∃ r, L r) : ∃ r, L' r := by
  induction h with
  | nil => exact hs
  | @cons L L' i p es he t ih => exact ih ⟨p, he.2.1, he.2.2.1⟩
theorem Run.out {L L' : Nat → Prop} {es : List (Nat × Nat)} (h : Run V L es L') : ∀ k, L k → ¬ L' k → ∃ p, (k, p) ∈ es := by
  induction h with
  | nil => exact fun k h1 h2 => absurd h1 h2
  | @cons L L' i p es he t ih =>
    intro k h1 h2
    by_cases hk : k = i
    · exact ⟨p, by rw [hk]; simp⟩
    · obtain ⟨q, hq⟩ := ih k ⟨h1, hk⟩ h2
      exact ⟨q, List.mem_cons_of_mem _ hq⟩
theorem Run.nodup {L L' : Nat → Prop} {es : List (Nat × Nat)} (h : Run V L es L') : (es.map Prod.fst).Nodup := by
  induction h with
  | nil => simp
  | @cons L L' i p es he t ih =>
    rw [List.map_cons, List.nodup_cons]
    refine ⟨fun hm => ?_, ih⟩
    obtain ⟨x, hx, e⟩ := List.mem_map.1 hm
    exact ((t.mem.1 x hx).1).2 e
theorem Run.elt {f : Nat → Option Nat} {r : Nat} {L L' : Nat → Prop} {es : List (Nat × Nat)} (h : Run V L es L') (hr : ∀ k, L' k ↔ k = r) (hf : ∀ x, x ∈ es → f x.1 = some x.2) (h0 : f r = none) : ElT V f L := by
  induction h with
  | nil => exact .one r hr h0
  | @cons L L' i p es he t ih => exact .step i p he (hf (i, p) (by simp)) (ih hr fun x hx => hf x (by simp [hx]))
theorem Run.elm {L L' : Nat → Prop} {es : List (Nat × Nat)} (h : Run V L es L') (he : Elm V L') : Elm V L := by
  induction h with
  | nil => exact he
  | @cons L L' i p es hi t ih => exact .step i p hi (ih he)
theorem Run.elm' {L L' : Nat → Prop} {es : List (Nat × Nat)} (h : Run V L es L') (he : Elm V L) : Elm V L' := by
  induction h with
  | nil => exact he
  | @cons L L' i p es hi t ih => exact ih (he.less hi)
/-- where no ear is left, one is left alone -/
theorem Elm.last {L : Nat → Prop} (h : Elm V L) (hn : ∀ i p, ¬ Ear V L i p) : ∃ r, ∀ k, L k ↔ k = r := by
  cases h with
  | one r h => exact ⟨r, h⟩
  | step i p h t => exact absurd h (hn i p)
/-- any one may be the last one -/
theorem Elm.run {r : Nat} : ∀ (S : List Nat) {L : Nat → Prop}, Elm V L → L r → (∀ k, L k → k ∈ S) → ∃ es L', Run V L es L' ∧ ∀ k, L' k ↔ k = r := by
  intro S
  induction hm : S.length generalizing S with
  | zero =>
    intro L h hr hs
    have : S = [] := List.eq_nil_of_length_eq_zero hm
    subst this
    cases hs r hr
  | succ m ih =>
    intro L h hr hs
    by_cases h2 : ∃ k, L k ∧ k ≠ r
    · obtain ⟨i, p, he, hir⟩ := h.two hr h2
      obtain ⟨es, L', h3, h4⟩ := ih (S.erase i) (by rw [List.length_erase_of_mem (hs i he.1), hm]; rfl) (h.less he) ⟨hr, fun e => hir e.symm⟩ (fun k hk => (List.mem_erase_of_ne hk.2).2 (hs k hk.1))
      exact ⟨(i, p) :: es, L', .cons he h3, h4⟩
    · exact ⟨[], L, .nil, fun k => ⟨fun hk => Classical.byContradiction fun hkr => h2 ⟨k, hk, hkr⟩, fun e => e ▸ hr⟩⟩
/-- a tree in which ways tell what both ends have: all but one may go -/
theorem tree_elm {f : Nat → Option Nat} {n : Nat} (hup : ∀ i, i < n → ∃ U, Up f i U ∧ ∀ x, x ∈ U → x < n) (hj : ∀ a b k, a < n → b < a → k < n → On f a b k → ∀ v, V a v → V b v → V k v)
    (r : Nat) (hr : r < n) (hroot : ∀ i, i < n → f i = none → i = r) : ∀ (S : List Nat) {L : Nat → Prop}, S.Nodup → (∀ k, L k ↔ k ∈ S) → (∀ k, L k → k < n) → (∀ k U, L k → Up f k U → ∀ x, x ∈ U → L x) → L r → Elm V L := by
  intro S
  induction hm : S.length generalizing S with
  | zero =>
    intro L hnd hs hln hcl hlr
    have : S = [] := List.eq_nil_of_length_eq_zero hm
    subst this
    cases (hs r).1 hlr
  | succ m ih =>
    intro L hnd hs hln hcl hlr
    by_cases h2 : ∃ k, L k ∧ k ≠ r
    · -- the deepest one
      have key : ∀ T : List Nat, (∀ k, k ∈ T → L k) → T ≠ [] → ∃ i, i ∈ T ∧ ∃ U, Up f i U ∧ ∀ k, k ∈ T → ∀ W, Up f k W → W.length ≤ U.length := by
        intro T
        induction T with
        | nil => intro _ h; exact absurd rfl h
        | cons a T ihT =>
          intro hT _
          obtain ⟨A, hA, _⟩ := hup a (hln a (hT a (by simp)))
          by_cases hT0 : T = []
          · subst hT0
            exact ⟨a, by simp, A, hA, fun k hk W hW => by simp at hk; subst hk; rw [hW.uniq hA]; exact Nat.le_refl _⟩
          · obtain ⟨i, hi, U, hU, hmax⟩ := ihT (fun k hk => hT k (by simp [hk])) hT0
            by_cases hle : A.length ≤ U.length
            · refine ⟨i, by simp [hi], U, hU, fun k hk W hW => ?_⟩
              rcases List.mem_cons.1 hk with rfl | hk
              · rw [hW.uniq hA]; exact hle
              · exact hmax k hk W hW
            · refine ⟨a, by simp, A, hA, fun k hk W hW => ?_⟩
              rcases List.mem_cons.1 hk with rfl | hk
              · rw [hW.uniq hA]; exact Nat.le_refl _
              · have := hmax k hk W hW
                omega
      obtain ⟨i, hiS, U, hU, hmax⟩ := key S (fun k hk => (hs k).2 hk) (by intro h; rw [h] at hm; cases hm)
      have hLi := (hs i).2 hiS
      have hmax' : ∀ k, L k → ∀ W, Up f k W → W.length ≤ U.length := fun k hk => hmax k ((hs k).1 hk)
      cases hU with
      | root hf =>
        obtain ⟨k, hk, hkr⟩ := h2
        obtain ⟨W, hW, _⟩ := hup k (hln k hk)
        cases hW with
        | root hf2 => exact absurd (hroot k (hln k hk) hf2) hkr
        | step hf2 t =>
          have := hmax' k hk _ (.step hf2 t)
          obtain ⟨U', e⟩ := t.head
          rw [e] at this
          simp at this
      | @step i p P hf hP =>
        have hLp : L p := hcl i _ hLi (.step hf hP) p (List.mem_cons_of_mem _ hP.mem)
        have hni : ∀ k W, L k → k ≠ i → Up f k W → i ∉ W := by
          intro k W hk hki hW him
          obtain ⟨W2, w1, w2, w3⟩ := hW.sub him
          have e1 := w1.uniq (.step hf hP)
          have h3 := hmax' k hk W hW
          cases hW with
          | root _ => simp at him; exact hki him.symm
          | @step _ q Q hq hQ =>
            rcases List.mem_cons.1 him with h | h
            · exact hki h.symm
            · obtain ⟨W3, x1, x2, x3⟩ := hQ.sub h
              have e2 := x1.uniq (.step hf hP)
              rw [e2] at x3
              simp at h3 x3
              omega
        have hpi : p ≠ i := by
          intro e
          obtain ⟨P', hP'⟩ := hP.head
          have h1 := Up.uniq (e ▸ hP) (.step hf hP)
          have := congrArg List.length h1
          simp at this
        have hear : Ear V L i p := by
          refine ⟨hLi, hLp, hpi, fun k hk hki v hiv hkv => ?_⟩
          obtain ⟨W, hW, hWn⟩ := hup k (hln k hk)
          have hiW := hni k W hk hki hW
          -- the root stands on both ways
          have hrt : ∀ {j : Nat} {J : List Nat}, Up f j J → (∀ x, x ∈ J → x < n) → r ∈ J := by
            intro j J hJ
            induction hJ with
            | root h =>
              intro hn
              have := hroot _ (hn _ (by simp)) h
              simp [this]
            | step h t ih2 => intro hn; exact List.mem_cons_of_mem _ (ih2 fun x hx => hn x (List.mem_cons_of_mem _ hx))
          obtain ⟨P2, hP2, hPn⟩ := hup p (hln p hLp)
          have eP := hP2.uniq hP
          subst eP
          have hrP := hrt hP hPn
          have hrW := hrt hW hWn
          have hik : i < n := hln i hLi
          have hkn : k < n := hln k hk
          rcases Nat.lt_or_gt_of_ne hki with hlt | hgt
          · cases hmt : meet (i :: P2) W with
            | none =>
              unfold meet at hmt
              rw [List.find?_eq_none] at hmt
              exact absurd hrW (by simpa using hmt r (List.mem_cons_of_mem _ hrP))
            | some m =>
              have h1 := List.find?_some hmt
              have h2 := List.mem_of_find?_eq_some hmt
              simp at h1
              have hmP : m ∈ P2 := by
                rcases List.mem_cons.1 h2 with h | h
                · rw [h] at h1; exact absurd h1 hiW
                · exact h
              exact hj i k p hik hlt (hln p hLp) ⟨i :: P2, W, P2, m, .step hf hP, hW, hP, .inl (List.mem_cons_of_mem _ hP.mem), hmt, hmP⟩ v hiv hkv
          · cases hmt : meet W (i :: P2) with
            | none =>
              unfold meet at hmt
              rw [List.find?_eq_none] at hmt
              exact absurd (List.mem_cons_of_mem _ hrP) (by simpa using hmt r hrW)
            | some m =>
              have h1 := List.find?_some hmt
              have h2 := List.mem_of_find?_eq_some hmt
              simp at h1
              have hmP : m ∈ P2 := by
                rcases h1 with h | h
                · rw [h] at h2; exact absurd h2 hiW
                · exact h
              exact hj k i p hkn hgt (hln p hLp) ⟨W, i :: P2, P2, m, hW, .step hf hP, hP, .inr (List.mem_cons_of_mem _ hP.mem), hmt, hmP⟩ v hkv hiv
        refine .step i p hear (ih (S.erase i) (by rw [List.length_erase_of_mem hiS, hm]; rfl) (hnd.erase i) (fun k => ?_) (fun k hk => hln k hk.1) (fun k W hk hW x hx => ?_) ?_)
        · rw [hnd.mem_erase_iff]
          exact ⟨fun ⟨a, b⟩ => ⟨b, (hs k).1 a⟩, fun ⟨a, b⟩ => ⟨(hs k).2 b, a⟩⟩
        · exact ⟨hcl k W hk.1 hW x hx, fun e => hni k W hk.1 hk.2 hW (e ▸ hx)⟩
        · refine ⟨hlr, fun e => ?_⟩
          obtain ⟨R, hR, _⟩ := hup r hr
          -- the root has no parent
          have : ∀ {j : Nat} {J : List Nat}, Up f j J → (∀ x, x ∈ J → x < n) → f r = none := by
            intro j J hJ
            induction hJ with
            | root h =>
              intro hn
              have := hroot _ (hn _ (by simp)) h
              rw [← this]; exact h
            | step h t ih2 => intro hn; exact ih2 fun x hx => hn x (List.mem_cons_of_mem _ hx)
          obtain ⟨I, hI, hIn⟩ := hup i (hln i hLi)
          have h1 := this hI hIn
          rw [e, hf] at h1
          cases h1
    · exact .one r fun k => ⟨fun hk => Classical.byContradiction fun hkr => h2 ⟨k, hk, hkr⟩, fun e => e ▸ hlr⟩
end Gy
end Go.Proofs.Ytahpoodcmeoabaa.PL
