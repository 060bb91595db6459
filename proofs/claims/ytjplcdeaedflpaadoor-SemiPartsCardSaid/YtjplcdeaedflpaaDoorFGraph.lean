/- Sets of numbers. -/
import Derived.Test.YtjplcdeaedflpaaDoorFSort
import Derived.Test.YtjplcdeaedflpaaDoorFGrow
namespace Go.Proofs.YtjplcdeaedflpaaDoor.PL
open Go.Proofs
set_option linter.unusedVariables false
set_option linter.unusedSimpArgs false
/-- a number put into a list that rises -/
def putI (v : Int) : List Int → List Int
  | [] => [v]
  | x :: l => if x < v then x :: putI v l else if x = v then x :: l else v :: x :: l
def setI (l : List Int) : List Int := l.foldl (fun s v => putI v s) []
def Rises (s : List Int) : Prop := s.Pairwise (· < ·)
theorem putI_mem {v x : Int} : ∀ {l : List Int}, x ∈ putI v l ↔ x = v ∨ x ∈ l
  | [] => by simp [putI]
  | y :: l => by
    unfold putI
    split
    · rw [List.mem_cons, putI_mem, List.mem_cons]; grind
    · split
      · rename_i h1 h2; subst h2; rw [List.mem_cons]; grind
      · rw [List.mem_cons]
theorem putI_rises {v : Int} : ∀ {l : List Int}, Rises l → Rises (putI v l)
  | [], _ => by simp [putI, Rises]
  | y :: l, h => by
    unfold Rises at h
    rw [List.pairwise_cons] at h
    unfold putI
    split
    · unfold Rises
      rw [List.pairwise_cons]
      refine ⟨fun x hx => ?_, putI_rises h.2⟩
      rcases putI_mem.1 hx with rfl | hx
      · assumption
      · exact h.1 x hx
    · split
      · unfold Rises; rw [List.pairwise_cons]; exact h
      · unfold Rises
        rw [List.pairwise_cons, List.pairwise_cons]
        refine ⟨fun x hx => ?_, h⟩
        rcases List.mem_cons.1 hx with rfl | hx
        · omega
        · have := h.1 x hx; omega
theorem setI_both : ∀ (l s : List Int), Rises s → Rises (l.foldl (fun s v => putI v s) s) ∧ ∀ x, x ∈ l.foldl (fun s v => putI v s) s ↔ x ∈ l ∨ x ∈ s
  | [], s, h => ⟨h, fun x => by simp⟩
  | v :: l, s, h => by
    obtain ⟨h1, h2⟩ := setI_both l (putI v s) (putI_rises h)
    refine ⟨h1, fun x => ?_⟩
    rw [List.foldl_cons, h2, putI_mem, List.mem_cons]
    grind
theorem setI_rises (l : List Int) : Rises (setI l) := (setI_both l [] .nil).1
theorem setI_mem {l : List Int} {x : Int} : x ∈ setI l ↔ x ∈ l := by rw [setI, (setI_both l [] .nil).2]; simp
theorem rises_eq : ∀ {a b : List Int}, Rises a → Rises b → (∀ x, x ∈ a ↔ x ∈ b) → a = b
  | [], [], _, _, _ => rfl
  | [], y :: b, _, _, h => absurd ((h y).2 List.mem_cons_self) (by simp)
  | x :: a, [], _, _, h => absurd ((h x).1 List.mem_cons_self) (by simp)
  | x :: a, y :: b, ha, hb, h => by
    unfold Rises at ha hb
    rw [List.pairwise_cons] at ha hb
    have hxy : x = y := by
      rcases List.mem_cons.1 ((h x).1 List.mem_cons_self) with e | e
      · exact e
      · rcases List.mem_cons.1 ((h y).2 List.mem_cons_self) with e2 | e2
        · exact e2.symm
        · have := hb.1 x e; have := ha.1 y e2; omega
    subst hxy
    congr 1
    refine rises_eq ha.2 hb.2 fun z => ⟨fun hz => ?_, fun hz => ?_⟩
    · rcases List.mem_cons.1 ((h z).1 (List.mem_cons_of_mem _ hz)) with e | e
      · subst e; have := ha.1 _ hz; omega
      · exact e
    · rcases List.mem_cons.1 ((h z).2 (List.mem_cons_of_mem _ hz)) with e | e
      · subst e; have := hb.1 _ hz; omega
      · exact e
theorem sort_set {L l : List Int} (hn : L.Nodup) (hm : ∀ x, x ∈ L ↔ x ∈ l) : sortI L = setI l := by
  refine rises_eq ?_ (setI_rises l) fun x => by rw [setI_mem, ← hm]; exact List.mem_mergeSort
  have h1 : (sortI L).Pairwise (fun a b => decide (a ≤ b) = true) := List.pairwise_mergeSort (by simp; omega) (by simp; omega) L
  have h2 : (sortI L).Nodup := (List.mergeSort_perm L _).nodup_iff.2 hn
  unfold Rises
  refine (h1.and h2).imp fun {a b} h => ?_
  simp at h
  omega
theorem nodup_le {α : Type} [DecidableEq α] : ∀ {l m : List α}, l.Nodup → (∀ x, x ∈ l → x ∈ m) → l.length ≤ m.length
  | [], _, _, _ => by simp
  | a :: l, m, hn, h => by
    rw [List.nodup_cons] at hn
    have ha := h a List.mem_cons_self
    have h1 : l.length ≤ (m.erase a).length := nodup_le hn.2 fun x hx => by
      have hne : x ≠ a := by rintro rfl; exact hn.1 hx
      exact (List.mem_erase_of_ne hne).2 (h x (List.mem_cons_of_mem _ hx))
    rw [List.length_erase_of_mem ha] at h1
    have := List.length_pos_of_mem ha
    simp only [List.length_cons]
    omega
theorem nodup_bound {n : Nat} {l : List Nat} (hn : l.Nodup) (hl : ∀ x, x ∈ l → x < n) : l.length ≤ n := by
  simpa using nodup_le (m := List.range n) hn fun x hx => List.mem_range.2 (hl x hx)
theorem nodup_get {α : Type} {l : List α} (h : l.Nodup) {i j : Nat} (hi : i < l.length) (hj : j < l.length) (e : l[i] = l[j]) : i = j := by
  have h2 := List.pairwise_iff_getElem.1 h
  rcases Nat.lt_trichotomy i j with h1 | h1 | h1
  · exact absurd e (h2 i j hi hj h1)
  · exact h1
  · exact absurd e.symm (h2 j i hj hi h1)
theorem nodup_map_on {α β : Type} {f : α → β} : ∀ {l : List α}, l.Nodup → (∀ a, a ∈ l → ∀ b, b ∈ l → f a = f b → a = b) → (l.map f).Nodup
  | [], _, _ => by simp
  | a :: l, h, hf => by
    rw [List.nodup_cons] at h
    rw [List.map_cons, List.nodup_cons]
    refine ⟨fun hm => ?_, nodup_map_on h.2 fun x hx y hy => hf x (List.mem_cons_of_mem _ hx) y (List.mem_cons_of_mem _ hy)⟩
    obtain ⟨b, hb, e⟩ := List.mem_map.1 hm
    have := hf b (List.mem_cons_of_mem _ hb) a List.mem_cons_self e
    subst this
    exact h.1 hb
def setK (l : List Int) (H : List HO) : AV → List HO → Prop := fun r H' => ∃ es c it, (setI l = [] ∧ r = .sl .nil [] ∧ H' = H ++ [.mp es c, it]) ∨ (0 < (setI l).length ∧ r = .mv (H.length + 2) (setI l).length 1 0 (setI l).length ∧ H' = H ++ [.mp es c, it, .row (setI l).length 1 (ints' (setI l))])
theorem S_set (H : List HO) (l : List Int) (hl : l.length ≤ 1000000) : TS Tryd.prog 36 [.sl .no (ints' l)] H (setK l H) := by
  refine (TS.bodyM [29] mix Tryd.func36 (by kernel_rfl) rfl (by kernel_rfl) (by simp) ?_)
  simp
  refine vc_loop (fun i : Nat => l.length - i) (fun i e H' => ∃ m : List (Int × Int), e 3 = .map H.length ∧ e 9 = .sl .no (ints' l) ∧ e 10 = .int .i64 l.length ∧ e 11 = .int .i64 i ∧ i ≤ l.length ∧ (m.map Prod.fst).Nodup ∧ (∀ x, x ∈ m.map Prod.fst ↔ x ∈ l.take i) ∧ H' = H ++ [.mp (mpA (AV.int .i64) (AV.int .i64) m) (some 0)]) 0 ?_ ?_
  · refine ⟨[], ?_⟩
    simp [mpA]
  rintro i e H' ⟨m, e3, e9, e10, e11, hi, hnd, hmem, rfl⟩
  by_cases hlt : i < l.length
  · have ew := wrap_next hlt (by omega)
    have hks : keysT Tryd.prog 3 (.int .i64 l[i]) (mpA (AV.int .i64) (AV.int .i64) m) := by rw [keys_int]; exact un_3
    have step : ∀ v : Int, ∃ s', l.length - s' < l.length - i ∧ IntKind.i64.wrap (i + 1) = (s' : Int) ∧ s' ≤ l.length ∧ ∃ x : List (Int × Int), (x.map Prod.fst).Nodup ∧ (∀ y : Int, (∃ z, (y, z) ∈ x) ↔ y ∈ l.take s') ∧ putK (.int .i64 l[i]) (.int .i64 v) (mpA (AV.int .i64) (AV.int .i64) m) = mpA (AV.int .i64) (AV.int .i64) x := by
      intro v
      refine ⟨i + 1, by omega, ew, by omega, putL l[i] v m, putL_keys hnd, fun y => ?_, putK_mpA (kf := AV.int .i64) (g := AV.int .i64)⟩
      have h1 : (∃ z, (y, z) ∈ putL l[i] v m) ↔ y ∈ (putL l[i] v m).map Prod.fst := by simp
      have h2 : getL y (putL l[i] v m) = none ↔ y ∉ (putL l[i] v m).map Prod.fst := getL_none_iff
      have h3 : getL y m = none ↔ y ∉ m.map Prod.fst := getL_none_iff
      rw [getL_put] at h2
      rw [h1, take_next hlt, List.mem_append, List.mem_singleton, ← hmem y]
      by_cases hy : y = l[i]
      · rw [if_pos hy] at h2
        simp only [reduceCtorEq, false_iff, Classical.not_not] at h2
        exact ⟨fun _ => .inr hy, fun _ => h2⟩
      · rw [if_neg hy] at h2
        grind
    simp [e3, e9, e10, e11, hlt]
    refine ⟨hks, ?_⟩
    rw [findK_mpA]
    cases hg : lkp l[i] m 0 with
    | none =>
      simp
      exact ⟨hks, step _⟩
    | some p =>
      simp
      exact ⟨hks, step _⟩
  have hil : i = l.length := by omega
  subst hil
  rw [List.take_length] at hmem
  have hml : (mpA (AV.int .i64) (AV.int .i64) m).length = m.length := mpA_length
  simp [e3, e9, e10, e11]
  rw [hml]
  have hml2 : m.length ≤ l.length := by
    have h := nodup_le hnd fun x hx => (hmem x).1 hx
    simpa using h
  clear e3 e9 e10 e11 hlt hi
  refine vc_loop (fun k : Nat => m.length - k) (fun k e H' => ∃ (seen : List Nat) (x : AV) (J : List HO), e 6 = x ∧ e 21 = .ptr (H.length + 1) 0 ∧ seen.length = k ∧ seen.Nodup ∧ (∀ j, j ∈ seen → j < m.length) ∧ ((seen = [] ∧ x = .sl .nil [] ∧ J = []) ∨ (0 < k ∧ x = .mv (H.length + 2) k 1 0 k ∧ J = [.row k 1 (ints' (seen.map fun j => (m.map Prod.fst).getD j 0))])) ∧ H' = H ++ .mp (mpA (AV.int .i64) (AV.int .i64) m) (some 0) :: .it H.length 0 m.length seen :: J) 0 ?_ ?_
  · refine ⟨[], .sl .nil [], [], ?_⟩
    simp
  rintro k e H' ⟨seen, x, J, e6, e21, hk, hsn, hsl, hx, rfl⟩
  simp [e6, e21]
  refine nx2K.intro hml (fun hall => ?_) (fun j en hj hns => ?_)
  · simp [e6, e21]
    have hDn : (seen.map fun j => (m.map Prod.fst).getD j 0).Nodup := by
      refine nodup_map_on hsn fun a ha b hb hab => ?_
      have h1 := hsl a ha
      have h2 := hsl b hb
      simp [h1, h2] at hab
      exact nodup_get hnd (by simpa using h1) (by simpa using h2) (by simpa using hab)
    have hDm : ∀ x, x ∈ (seen.map fun j => (m.map Prod.fst).getD j 0) ↔ x ∈ l := fun x => by
      rw [← hmem x]
      simp only [List.mem_map]
      constructor
      · rintro ⟨a, ha, rfl⟩
        have h1 := hsl a ha
        exact ⟨m[a], List.getElem_mem h1, by simp [h1]⟩
      · rintro ⟨q, hq, rfl⟩
        obtain ⟨a, ha, rfl⟩ := List.getElem_of_mem hq
        exact ⟨a, hall a ha, by simp [ha]⟩
    have hS := sort_set hDn hDm
    rcases hx with ⟨rfl, rfl, rfl⟩ | ⟨hk0, rfl, rfl⟩
    · refine TS.pt S_sortNone ?_
      simp [e6, e21]
      refine ⟨_, _, _, .inl ⟨?_, rfl, rfl⟩⟩
      rw [← hS]; simp [sortI]
    · have hDl : (seen.map fun j => (m.map Prod.fst).getD j 0).length = k := by rw [List.length_map, hk]
      have hkl : k ≤ m.length := by rw [← hk]; exact nodup_bound hsn hsl
      have hks : (setI l).length = k := by rw [← hS, sortI_len, hDl]
      generalize (seen.map fun j => (m.map Prod.fst).getD j 0) = D at *
      refine TS.pt (S_sortInts (n := k) (zs := D) hDl (by simp) (by have := hml2; omega) hk0) ?_
      rw [hS]
      simp [e6, e21]
      refine ⟨_, _, _, .inr ⟨by omega, by rw [hks], by rw [hks]⟩⟩
  · have hjl : j < m.length := by
      have := (List.getElem?_eq_some_iff.1 hj).1
      rwa [hml] at this
    have hen : en = (.int .i64 m[j].1, .int .i64 m[j].2) := by
      simp [mpA, hjl] at hj
      exact hj.symm
    subst hen
    have hkl : seen.length < m.length := by
      have : (seen ++ [j]).length ≤ m.length := nodup_bound (List.nodup_append.2 ⟨hsn, by simp, by simp; exact fun a ha => fun e => hns (e ▸ ha)⟩) fun a ha => by
        rcases List.mem_append.1 ha with ha | ha
        · exact hsl a ha
        · simp at ha; omega
      simp at this; omega
    have hn2 : (seen ++ [j]).Nodup := List.nodup_append.2 ⟨hsn, by simp, by simp; exact fun a ha => fun e => hns (e ▸ ha)⟩
    have hl2 : ∀ a, a ∈ seen ++ [j] → a < m.length := fun a ha => by
      rcases List.mem_append.1 ha with ha | ha
      · exact hsl a ha
      · simp at ha; omega
    simp [e6, e21]
    rw [en2K_some hj hml]
    rcases hx with ⟨rfl, rfl, rfl⟩ | ⟨hk0, rfl, rfl⟩
    · simp [e6, e21]
      simp at hk
      exact ⟨1, by simp at hkl; omega, [j], rfl, by simp, by simpa using hjl, ⟨by omega, rfl, by simp [hjl]⟩, rfl⟩
    · simp [e6, e21]
      exact ⟨⟨by omega, by omega⟩, k + 1, by omega, seen ++ [j], by simp [hk], hn2, hl2, ⟨by omega, rfl, by simp [hjl]⟩, rfl⟩
end Go.Proofs.YtjplcdeaedflpaaDoor.PL
