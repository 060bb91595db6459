/- Sets of numbers. -/
import Derived.Test.YtcjfjoilgnlemaaFSort
import Derived.Test.YtcjfjoilgnlemaaFGrow
namespace Go.Proofs.Ytcjfjoilgnlemaa.PL
open Go.Proofs
set_option linter.unusedVariables false
set_option linter.unusedSimpArgs false
/-- a number put into a list that rises -/
def putI (v : Int) : List Int → List Int
  | [] => [v]
  | x :: l => if x < v then x :: putI v l else if x = v then x :: l else v :: x :: l
def setI (l : List Int) : List Int := l.foldl (fun s v => putI v s) []
def Rises (s : List Int) : Prop := s.Pairwise (· < ·)
theorem putI_mem {v x : Int} : ∀ {l : List Int}, x ∈ putI v l ↔ x = v ∨ x ∈ l
  | [] => by simp [putI]
  | y :: l => by
    unfold putI
    split
    · rw [List.mem_cons, putI_mem, List.mem_cons]; grind
    · split
      · rename_i h1 h2; subst h2; rw [List.mem_cons]; grind
      · rw [List.mem_cons]
theorem putI_rises {v : Int} : ∀ {l : List Int}, Rises l → Rises (putI v l)
  | [], _ => by simp [putI, Rises]
  | y :: l, h => by
    unfold Rises at h
    rw [List.pairwise_cons] at h
    unfold putI
    split
    · unfold Rises
      rw [List.pairwise_cons]
      refine ⟨fun x hx => ?_, putI_rises h.2⟩
      rcases putI_mem.1 hx with rfl | hx
      · assumption
      · exact h.1 x hx
    · split
      · unfold Rises; rw [List.pairwise_cons]; exact h
      · unfold Rises
        rw [List.pairwise_cons, List.pairwise_cons]
        refine ⟨fun x hx => ?_, h⟩
        rcases List.mem_cons.1 hx with rfl | hx
        · omega
        · have := h.1 x hx; omega
theorem setI_both : ∀ (l s : List Int), Rises s → Rises (l.foldl (fun s v => putI v s) s) ∧ ∀ x, x ∈ l.foldl (fun s v => putI v s) s ↔ x ∈ l ∨ x ∈ s
  | [], s, h => ⟨h, fun x => by simp⟩
  | v :: l, s, h => by
    obtain ⟨h1, h2⟩ := setI_both l (putI v s) (putI_rises h)
    refine ⟨h1, fun x => ?_⟩
    rw [List.foldl_cons, h2, putI_mem, List.mem_cons]
    grind
theorem setI_rises (l : List Int) : Rises (setI l) := (setI_both l [] .nil).1
theorem setI_mem {l : List Int} {x : Int} : x ∈ setI l ↔ x ∈ l := by rw [setI, (setI_both l [] .nil).2]; simp
theorem rises_eq : ∀ {a b : List Int}, Rises a → Rises b → (∀ x, x ∈ a ↔ x ∈ b) → a = b
  | [], [], _, _, _ => rfl
  | [], y :: b, _, _, h => absurd ((h y).2 List.mem_cons_self) (by simp)
  | x :: a, [], _, _, h => absurd ((h x).1 List.mem_cons_self) (by simp)
  | x :: a, y :: b, ha, hb, h => by
    unfold Rises at ha hb
    rw [List.pairwise_cons] at ha hb
    have hxy : x = y := by
      rcases List.mem_cons.1 ((h x).1 List.mem_cons_self) with e | e
      · exact e
      · rcases List.mem_cons.1 ((h y).2 List.mem_cons_self) with e2 | e2
        · exact e2.symm
        · have := hb.1 x e; have := ha.1 y e2; omega
    subst hxy
    congr 1
    refine rises_eq ha.2 hb.2 fun z => ⟨fun hz => ?_, fun hz => ?_⟩
    · rcases List.mem_cons.1 ((h z).1 (List.mem_cons_of_mem _ hz)) with e | e
      · subst e; have := ha.1 _ hz; omega
      · exact e
    · rcases List.mem_cons.1 ((h z).2 (List.mem_cons_of_mem _ hz)) with e | e
      · subst e; have := hb.1 _ hz; omega
      · exact e
theorem sort_set {L l : List Int} (hn : L.Nodup) (hm : ∀ x, x ∈ L ↔ x ∈ l) : sortI L = setI l := by
  refine rises_eq ?_ (setI_rises l) fun x => by rw [setI_mem, ← hm]; exact List.mem_mergeSort
  have h1 : (sortI L).Pairwise (fun a b => decide (a ≤ b) = true) := List.pairwise_mergeSort (by simp; omega) (by simp; omega) L
  have h2 : (sortI L).Nodup := (List.mergeSort_perm L _).nodup_iff.2 hn
  unfold Rises
  refine (h1.and h2).imp fun {a b} h => ?_
  simp at h
  omega
theorem nodup_le {α : Type} [DecidableEq α] : ∀ {l m : List α}, l.Nodup → (∀ x, x ∈ l → x ∈ m) → l.length ≤ m.length
  | [], _, _, _ => by simp
  | a :: l, m, hn, h => by
    rw [List.nodup_cons] at hn
    have ha := h a List.mem_cons_self
    have h1 : l.length ≤ (m.erase a).length := nodup_le hn.2 fun x hx => by
      have hne : x ≠ a := by rintro rfl; exact hn.1 hx
      exact (List.mem_erase_of_ne hne).2 (h x (List.mem_cons_of_mem _ hx))
    rw [List.length_erase_of_mem ha] at h1
    have := List.length_pos_of_mem ha
    simp only [List.length_cons]
    omega
theorem nodup_bound {n : Nat} {l : List Nat} (hn : l.Nodup) (hl : ∀ x, x ∈ l → x < n) : l.length ≤ n := by
  simpa using nodup_le (m := List.range n) hn fun x hx => List.mem_range.2 (hl x hx)
theorem nodup_get {α : Type} {l : List α} (h : l.Nodup) {i j : Nat} (hi : i < l.length) (hj : j < l.length) (e : l[i] = l[j]) : i = j := by
  have h2 := List.pairwise_iff_getElem.1 h
  rcases Nat.lt_trichotomy i j with h1 | h1 | h1
  · exact absurd e (h2 i j hi hj h1)
  · exact h1
  · exact absurd e.symm (h2 j i hj hi h1)
theorem nodup_map_on {α β : Type} {f : α → β} : ∀ {l : List α}, l.Nodup → (∀ a, a ∈ l → ∀ b, b ∈ l → f a = f b → a = b) → (l.map f).Nodup
  | [], _, _ => by simp
  | a :: l, h, hf => by
    rw [List.nodup_cons] at h
    rw [List.map_cons, List.nodup_cons]
    refine ⟨fun hm => ?_, nodup_map_on h.2 fun x hx y hy => hf x (List.mem_cons_of_mem _ hx) y (List.mem_cons_of_mem _ hy)⟩
    obtain ⟨b, hb, e⟩ := List.mem_map.1 hm
    have := hf b (List.mem_cons_of_mem _ hb) a List.mem_cons_self e
    subst this
    exact h.1 hb
def setK (l : List Int) (H : List HO) : AV → List HO → Prop := fun r H' => ∃ es c it, (setI l = [] ∧ r = .sl .nil [] ∧ H' = H ++ [.mp es c, it]) ∨ (0 < (setI l).length ∧ r = .mv (H.length + 2) (setI l).length 1 0 (setI l).length ∧ H' = H ++ [.mp es c, it, .row (setI l).length 1 (ints' (setI l))])
end Go.Proofs.Ytcjfjoilgnlemaa.PL
