/- Contracts of functions of the program, and plain laws (part 1): Sets of numbers; Numbers that two lists share; The reference's sets of numbers; What the classes that join tell; Playing joins on both; All classes; What is asked of rows in statements; In whatever order: classes that join; What hangs together; Ears, one after the other; Trees by their parents: the reference  and parents by ears; Trees by their parents: the way up. -/
import Derived.Test.YtjplcdeaedflpaaGreatDoorB0
namespace Go.Proofs.YtjplcdeaedflpaaGreatDoor.PL
open Go.Proofs
set_option linter.unusedVariables false
set_option linter.unusedSimpArgs false
/-- a number put into a list that rises -/
def putI (v : Int) : List Int → List Int
  | [] => [v]
  | x :: l => if x < v then x :: putI v l else if x = v then x :: l else v :: x :: l
def setI (l : List Int) : List Int := l.foldl (fun s v => putI v s) []
def Rises (s : List Int) : Prop := s.Pairwise (· < ·)
theorem putI_mem {v x : Int} : ∀ {l : List Int}, x ∈ putI v l ↔ x = v ∨ x ∈ l
  | [] => by simp [putI]
  | y :: l => by
    unfold putI
    split
    · rw [List.mem_cons, putI_mem, List.mem_cons]; grind
    · split
      · rename_i h1 h2; subst h2; rw [List.mem_cons]; grind
      · rw [List.mem_cons]
theorem putI_rises {v : Int} : ∀ {l : List Int}, Rises l → Rises (putI v l)
  | [], _ => by simp [putI, Rises]
  | y :: l, h => by
    unfold Rises at h
    rw [List.pairwise_cons] at h
    unfold putI
    split
    · unfold Rises
      rw [List.pairwise_cons]
      refine ⟨fun x hx => ?_, putI_rises h.2⟩
      rcases putI_mem.1 hx with rfl | hx
      · assumption
      · exact h.1 x hx
    · split
      · unfold Rises; rw [List.pairwise_cons]; exact h
      · unfold Rises
        rw [List.pairwise_cons, List.pairwise_cons]
        refine ⟨fun x hx => ?_, h⟩
        rcases List.mem_cons.1 hx with rfl | hx
        · omega
        · have := h.1 x hx; omega
theorem setI_both : ∀ (l s : List Int), Rises s → Rises (l.foldl (fun s v => putI v s) s) ∧ ∀ x, x ∈ l.foldl (fun s v => putI v s) s ↔ x ∈ l ∨ x ∈ s
  | [], s, h => ⟨h, fun x => by simp⟩
  | v :: l, s, h => by
    obtain ⟨h1, h2⟩ := setI_both l (putI v s) (putI_rises h)
    refine ⟨h1, fun x => ?_⟩
    rw [List.foldl_cons, h2, putI_mem, List.mem_cons]
    grind
theorem setI_rises (l : List Int) : Rises (setI l) := (setI_both l [] .nil).1
theorem setI_mem {l : List Int} {x : Int} : x ∈ setI l ↔ x ∈ l := by rw [setI, (setI_both l [] .nil).2]; simp
theorem rises_eq : ∀ {a b : List Int}, Rises a → Rises b → (∀ x, x ∈ a ↔ x ∈ b) → a = b
  | [], [], _, _, _ => rfl
  | [], y :: b, _, _, h => absurd ((h y).2 List.mem_cons_self) (by simp)
  | x :: a, [], _, _, h => absurd ((h x).1 List.mem_cons_self) (by simp)
  | x :: a, y :: b, ha, hb, h => by
    unfold Rises at ha hb
    rw [List.pairwise_cons] at ha hb
    have hxy : x = y := by
      rcases List.mem_cons.1 ((h x).1 List.mem_cons_self) with e | e
      · exact e
      · rcases List.mem_cons.1 ((h y).2 List.mem_cons_self) with e2 | e2
        · exact e2.symm
        · have := hb.1 x e; have := ha.1 y e2; omega
    subst hxy
    congr 1
    refine rises_eq ha.2 hb.2 fun z => ⟨fun hz => ?_, fun hz => ?_⟩
    · rcases List.mem_cons.1 ((h z).1 (List.mem_cons_of_mem _ hz)) with e | e
      · subst e; have := ha.1 _ hz; omega
      · exact e
    · rcases List.mem_cons.1 ((h z).2 (List.mem_cons_of_mem _ hz)) with e | e
      · subst e; have := hb.1 _ hz; omega
      · exact e
theorem sort_set {L l : List Int} (hn : L.Nodup) (hm : ∀ x, x ∈ L ↔ x ∈ l) : sortI L = setI l := by
  refine rises_eq ?_ (setI_rises l) fun x => by rw [setI_mem, ← hm]; exact List.mem_mergeSort
  have h1 : (sortI L).Pairwise (fun a b => decide (a ≤ b) = true) := List.pairwise_mergeSort (by simp; omega) (by simp; omega) L
  have h2 : (sortI L).Nodup := (List.mergeSort_perm L _).nodup_iff.2 hn
  unfold Rises
  refine (h1.and h2).imp fun {a b} h => ?_
  simp at h
  omega
theorem nodup_le {α : Type} [DecidableEq α] : ∀ {l m : List α}, l.Nodup → (∀ x, x ∈ l → x ∈ m) → l.length ≤ m.length
  | [], _, _, _ => by simp
  | a :: l, m, hn, h => by
    rw [List.nodup_cons] at hn
    have ha := h a List.mem_cons_self
    have h1 : l.length ≤ (m.erase a).length := nodup_le hn.2 fun x hx => by
      have hne : x ≠ a := by rintro rfl; exact hn.1 hx
      exact (List.mem_erase_of_ne hne).2 (h x (List.mem_cons_of_mem _ hx))
    rw [List.length_erase_of_mem ha] at h1
    have := List.length_pos_of_mem ha
    simp only [List.length_cons]
    omega
theorem nodup_bound {n : Nat} {l : List Nat} (hn : l.Nodup) (hl : ∀ x, x ∈ l → x < n) : l.length ≤ n := by
  simpa using nodup_le (m := List.range n) hn fun x hx => List.mem_range.2 (hl x hx)
theorem nodup_get {α : Type} {l : List α} (h : l.Nodup) {i j : Nat} (hi : i < l.length) (hj : j < l.length) (e : l[i] = l[j]) : i = j := by
  have h2 := List.pairwise_iff_getElem.1 h
  rcases Nat.lt_trichotomy i j with h1 | h1 | h1
  · exact absurd e (h2 i j hi hj h1)
  · exact h1
  · exact absurd e.symm (h2 j i hj hi h1)
theorem nodup_map_on {α β : Type} {f : α → β} : ∀ {l : List α}, l.Nodup → (∀ a, a ∈ l → ∀ b, b ∈ l → f a = f b → a = b) → (l.map f).Nodup
  | [], _, _ => by simp
  | a :: l, h, hf => by
    rw [List.nodup_cons] at h
    rw [List.map_cons, List.nodup_cons]
    refine ⟨fun hm => ?_, nodup_map_on h.2 fun x hx y hy => hf x (List.mem_cons_of_mem _ hx) y (List.mem_cons_of_mem _ hy)⟩
    obtain ⟨b, hb, e⟩ := List.mem_map.1 hm
    have := hf b (List.mem_cons_of_mem _ hb) a List.mem_cons_self e
    subst this
    exact h.1 hb
def setK (l : List Int) (H : List HO) : AV → List HO → Prop := fun r H' => ∃ es c it, (setI l = [] ∧ r = .sl .nil [] ∧ H' = H ++ [.mp es c, it]) ∨ (0 < (setI l).length ∧ r = .mv (H.length + 2) (setI l).length 1 0 (setI l).length ∧ H' = H ++ [.mp es c, it, .row (setI l).length 1 (ints' (setI l))])
theorem S_set (H : List HO) (l : List Int) (hl : l.length ≤ 1000000) : TS Tryz.prog 92 [.sl .no (ints' l)] H (setK l H) := by
  refine (TS.bodyM [29] mix Tryz.func92 (by kernel_rfl) rfl (by kernel_rfl) (by simp) ?_)
  simp
  refine vc_loop (fun i : Nat => l.length - i) (fun i e H' => ∃ m : List (Int × Int), e 3 = .map H.length ∧ e 9 = .sl .no (ints' l) ∧ e 10 = .int .i64 l.length ∧ e 11 = .int .i64 i ∧ i ≤ l.length ∧ (m.map Prod.fst).Nodup ∧ (∀ x, x ∈ m.map Prod.fst ↔ x ∈ l.take i) ∧ H' = H ++ [.mp (mpA (AV.int .i64) (AV.int .i64) m) (some 0)]) 0 ?_ ?_
  · refine ⟨[], ?_⟩
    simp [mpA]
  rintro i e H' ⟨m, e3, e9, e10, e11, hi, hnd, hmem, rfl⟩
  by_cases hlt : i < l.length
  · have ew := wrap_next hlt (by omega)
    have hks : keysT Tryz.prog 3 (.int .i64 l[i]) (mpA (AV.int .i64) (AV.int .i64) m) := by rw [keys_int]; exact un_3
    have step : ∀ v : Int, ∃ s', l.length - s' < l.length - i ∧ IntKind.i64.wrap (i + 1) = (s' : Int) ∧ s' ≤ l.length ∧ ∃ x : List (Int × Int), (x.map Prod.fst).Nodup ∧ (∀ y : Int, (∃ z, (y, z) ∈ x) ↔ y ∈ l.take s') ∧ putK (.int .i64 l[i]) (.int .i64 v) (mpA (AV.int .i64) (AV.int .i64) m) = mpA (AV.int .i64) (AV.int .i64) x := by
      intro v
      refine ⟨i + 1, by omega, ew, by omega, putL l[i] v m, putL_keys hnd, fun y => ?_, putK_mpA (kf := AV.int .i64) (g := AV.int .i64)⟩
      have h1 : (∃ z, (y, z) ∈ putL l[i] v m) ↔ y ∈ (putL l[i] v m).map Prod.fst := by simp
      have h2 : getL y (putL l[i] v m) = none ↔ y ∉ (putL l[i] v m).map Prod.fst := getL_none_iff
      have h3 : getL y m = none ↔ y ∉ m.map Prod.fst := getL_none_iff
      rw [getL_put] at h2
      rw [h1, take_next hlt, List.mem_append, List.mem_singleton, ← hmem y]
      by_cases hy : y = l[i]
      · rw [if_pos hy] at h2
        simp only [reduceCtorEq, false_iff, Classical.not_not] at h2
        exact ⟨fun _ => .inr hy, fun _ => h2⟩
      · rw [if_neg hy] at h2
        grind
    simp [e3, e9, e10, e11, hlt]
    refine ⟨hks, ?_⟩
    rw [findK_mpA]
    cases hg : lkp l[i] m 0 with
    | none =>
      simp
      exact ⟨hks, step _⟩
    | some p =>
      simp
      exact ⟨hks, step _⟩
  have hil : i = l.length := by omega
  subst hil
  rw [List.take_length] at hmem
  have hml : (mpA (AV.int .i64) (AV.int .i64) m).length = m.length := mpA_length
  simp [e3, e9, e10, e11]
  rw [hml]
  have hml2 : m.length ≤ l.length := by
    have h := nodup_le hnd fun x hx => (hmem x).1 hx
    simpa using h
  clear e3 e9 e10 e11 hlt hi
  refine vc_loop (fun k : Nat => m.length - k) (fun k e H' => ∃ (seen : List Nat) (x : AV) (J : List HO), e 6 = x ∧ e 21 = .ptr (H.length + 1) 0 ∧ seen.length = k ∧ seen.Nodup ∧ (∀ j, j ∈ seen → j < m.length) ∧ ((seen = [] ∧ x = .sl .nil [] ∧ J = []) ∨ (0 < k ∧ x = .mv (H.length + 2) k 1 0 k ∧ J = [.row k 1 (ints' (seen.map fun j => (m.map Prod.fst).getD j 0))])) ∧ H' = H ++ .mp (mpA (AV.int .i64) (AV.int .i64) m) (some 0) :: .it H.length 0 m.length seen :: J) 0 ?_ ?_
  · refine ⟨[], .sl .nil [], [], ?_⟩
    simp
  rintro k e H' ⟨seen, x, J, e6, e21, hk, hsn, hsl, hx, rfl⟩
  simp [e6, e21]
  refine nx2K.intro hml (fun hall => ?_) (fun j en hj hns => ?_)
  · simp [e6, e21]
    have hDn : (seen.map fun j => (m.map Prod.fst).getD j 0).Nodup := by
      refine nodup_map_on hsn fun a ha b hb hab => ?_
      have h1 := hsl a ha
      have h2 := hsl b hb
      simp [h1, h2] at hab
      exact nodup_get hnd (by simpa using h1) (by simpa using h2) (by simpa using hab)
    have hDm : ∀ x, x ∈ (seen.map fun j => (m.map Prod.fst).getD j 0) ↔ x ∈ l := fun x => by
      rw [← hmem x]
      simp only [List.mem_map]
      constructor
      · rintro ⟨a, ha, rfl⟩
        have h1 := hsl a ha
        exact ⟨m[a], List.getElem_mem h1, by simp [h1]⟩
      · rintro ⟨q, hq, rfl⟩
        obtain ⟨a, ha, rfl⟩ := List.getElem_of_mem hq
        exact ⟨a, hall a ha, by simp [ha]⟩
    have hS := sort_set hDn hDm
    rcases hx with ⟨rfl, rfl, rfl⟩ | ⟨hk0, rfl, rfl⟩
    · refine TS.pt S_sortNone ?_
      simp [e6, e21]
      refine ⟨_, _, _, .inl ⟨?_, rfl, rfl⟩⟩
      rw [← hS]; simp [sortI]
    · have hDl : (seen.map fun j => (m.map Prod.fst).getD j 0).length = k := by rw [List.length_map, hk]
      have hkl : k ≤ m.length := by rw [← hk]; exact nodup_bound hsn hsl
      have hks : (setI l).length = k := by rw [← hS, sortI_len, hDl]
      generalize (seen.map fun j => (m.map Prod.fst).getD j 0) = D at *
      refine TS.pt (S_sortInts (n := k) (zs := D) hDl (by simp) (by have := hml2; omega) hk0) ?_
      rw [hS]
      simp [e6, e21]
      refine ⟨_, _, _, .inr ⟨by omega, by rw [hks], by rw [hks]⟩⟩
  · have hjl : j < m.length := by
      have := (List.getElem?_eq_some_iff.1 hj).1
      rwa [hml] at this
    have hen : en = (.int .i64 m[j].1, .int .i64 m[j].2) := by
      simp [mpA, hjl] at hj
      exact hj.symm
    subst hen
    have hkl : seen.length < m.length := by
      have : (seen ++ [j]).length ≤ m.length := nodup_bound (List.nodup_append.2 ⟨hsn, by simp, by simp; exact fun a ha => fun e => hns (e ▸ ha)⟩) fun a ha => by
        rcases List.mem_append.1 ha with ha | ha
        · exact hsl a ha
        · simp at ha; omega
      simp at this; omega
    have hn2 : (seen ++ [j]).Nodup := List.nodup_append.2 ⟨hsn, by simp, by simp; exact fun a ha => fun e => hns (e ▸ ha)⟩
    have hl2 : ∀ a, a ∈ seen ++ [j] → a < m.length := fun a ha => by
      rcases List.mem_append.1 ha with ha | ha
      · exact hsl a ha
      · simp at ha; omega
    simp [e6, e21]
    rw [en2K_some hj hml]
    rcases hx with ⟨rfl, rfl, rfl⟩ | ⟨hk0, rfl, rfl⟩
    · simp [e6, e21]
      simp at hk
      exact ⟨1, by simp at hkl; omega, [j], rfl, by simp, by simpa using hjl, ⟨by omega, rfl, by simp [hjl]⟩, rfl⟩
    · simp [e6, e21]
      exact ⟨⟨by omega, by omega⟩, k + 1, by omega, seen ++ [j], by simp [hk], hn2, hl2, ⟨by omega, rfl, by simp [hjl]⟩, rfl⟩
end Go.Proofs.YtjplcdeaedflpaaGreatDoor.PL
namespace Go.Proofs.YtjplcdeaedflpaaGreatDoor.PL
open Go.Proofs
set_option linter.unusedVariables false
set_option linter.unusedSimpArgs false
theorem T_indexI (l : List Int) (v : Int) (hl : l.length < 4611686018427387904) : ∃ n : Int, T Tryz.prog 60 [.sl .no (ints' l), .int .i64 v] (.int .i64 n) ∧ decide (0 ≤ n) = decide (v ∈ l) ∧ n = match l.findIdx? (fun x => decide (x = v)) with | some i => (i : Int) | none => -1 := by
  refine ⟨match l.findIdx? (fun x => decide (x = v)) with | some i => (i : Int) | none => -1, ?_, ?_, rfl⟩
  · refine T.intro (TS.body mix Tryz.func60 (by kernel_rfl) rfl (by kernel_rfl) (by simp) ?_)
    simp
    refine vc_loop (fun i : Nat => l.length - i) (fun i e H => e 1 = .int .i64 v ∧ e 0 = .sl .no (ints' l) ∧ e 7 = .int .i64 l.length ∧ e 8 = .int .i64 i ∧ i ≤ l.length ∧ (∀ j (h : j < l.length), j < i → ¬ l[j] = v)) 0 ?_ ?_
    · simp
    rintro i e H ⟨h1, h0, h7, h8, hi, hno⟩
    by_cases h : i < l.length
    · simp [h1, h0, h7, h8, h]
      refine condK_of (fun h' => ?_) (fun h' => ?_)
      · simp at h'
        simp
        have : l.findIdx? (fun x => decide (x = v)) = some i := by
          rw [List.findIdx?_eq_some_iff_getElem]
          exact ⟨h, by simp [h'], fun j hj => by simpa using hno j (by omega) hj⟩
        rw [this]
      · simp at h'
        simp [h1, h0, h7, h8]
        refine ⟨i + 1, by omega, wrap_next h (by omega), by omega, fun j hj hji => ?_⟩
        rcases Nat.lt_or_ge j i with h2 | h2
        · exact hno j hj h2
        · have : j = i := by omega
          subst this
          exact fun e => h' e.symm
    · have : i = l.length := by omega
      subst this
      simp [h7, h8]
      have : l.findIdx? (fun x => decide (x = v)) = none := by
        rw [List.findIdx?_eq_none_iff]
        intro x hx
        obtain ⟨j, hj, rfl⟩ := List.getElem_of_mem hx
        simpa using hno j hj hj
      rw [this]
  · cases h : l.findIdx? (fun x => decide (x = v)) with
    | none =>
      rw [List.findIdx?_eq_none_iff] at h
      have : v ∉ l := fun hv => by simpa using h v hv
      simp [this]
    | some i =>
      obtain ⟨h1, h2, _⟩ := List.findIdx?_eq_some_iff_getElem.1 h
      have : v ∈ l := by simp at h2; rw [← h2]; exact List.getElem_mem h1
      simp [this]
theorem T_hasI (l : List Int) (v : Int) (hl : l.length < 4611686018427387904) : T Tryz.prog 94 [.sl .no (ints' l), .int .i64 v] (.bool (decide (v ∈ l))) := by
  obtain ⟨n, h1, h2, _⟩ := T_indexI l v hl
  refine T.intro (TS.body mix Tryz.func94 (by kernel_rfl) rfl (by kernel_rfl) (by simp) ?_)
  simp
  refine TS.callW h1 (Dws.self (by simp)) ?_
  simp
  simpa using h2
/-- the first one for which it is so, of a row -/
theorem S_indexMv (H : List HO) (r n : Nat) (f : FuncId) (caps : List AV) (l : List Int) (q : Int → Bool) (hn : l.length = n) (hr : H[r]? = some (.row n 1 (ints' l))) (hl : n < 4611686018427387904) (hq : ∀ x, x ∈ l → TS Tryz.prog f (.int .i64 x :: caps) H (pt (.bool (q x)) H)) : TS Tryz.prog 112 [.mv r n 1 0 n, .fn (.func f) [] caps] H (pt (.int .i64 (match l.findIdx? q with | some i => (i : Int) | none => -1)) H) := by
  subst hn
  refine TS.body mix Tryz.func112 (by kernel_rfl) rfl (by kernel_rfl) (by simp) ?_
  simp
  refine vc_loop (fun i : Nat => l.length - i) (fun i e H' => e 0 = .mv r l.length 1 0 l.length ∧ e 1 = .fn (.func f) [] caps ∧ e 7 = .int .i64 l.length ∧ e 8 = .int .i64 i ∧ i ≤ l.length ∧ (∀ j (h : j < l.length), j < i → q l[j] = false) ∧ H' = H) 0 ?_ ?_
  · simp
  rintro i e H' ⟨h0, h1, h7, h8, hi, hno, rfl⟩
  by_cases hlt : i < l.length
  · have ew := wrap_next hlt (by omega)
    have hqi := hq l[i] (List.getElem_mem hlt)
    simp [h0, h1, h7, h8, hlt, hr]
    refine TS.pt hqi ?_
    simp [h0, h1, h7, h8, hlt]
    refine condK_of (fun c => ?_) (fun c => ?_)
    · have : l.findIdx? q = some i := by
        rw [List.findIdx?_eq_some_iff_getElem]
        exact ⟨hlt, c, fun j hj => by rw [hno j (by omega) hj]; simp⟩
      rw [this]
      simp
    · simp [h0, h1, h7, h8, hlt]
      refine ⟨i + 1, by omega, ew, by omega, fun j h hj => ?_⟩
      rcases Nat.lt_or_ge j i with h2 | h2
      · exact hno j h h2
      · have : j = i := by omega
        subst this; exact c
  · have : i = l.length := by omega
    subst this
    have : l.findIdx? q = none := by
      rw [List.findIdx?_eq_none_iff]
      intro x hx
      obtain ⟨j, hj, rfl⟩ := List.getElem_of_mem hx
      exact hno j hj hj
    rw [this]
    simp [h0, h1, h7, h8]
def keepI (q : Int → Bool) (l : List Int) : List Int := l.filter fun x => !q x
theorem keepI_none {q : Int → Bool} {l : List Int} (h : ∀ j (h : j < l.length), q l[j] = false) : keepI q l = l := by
  unfold keepI
  rw [List.filter_eq_self]
  intro x hx
  obtain ⟨j, hj, rfl⟩ := List.getElem_of_mem hx
  simp [h j hj]
theorem keepI_next {q : Int → Bool} {l : List Int} {i : Nat} (h : i < l.length) : keepI q (l.take (i + 1)) = keepI q (l.take i) ++ if q l[i] = true then [] else [l[i]] := by
  unfold keepI
  rw [take_next h, List.filter_append]
  by_cases hq : q l[i] = true <;> simp [hq]
/-- those for which it is so are taken out of a row -/
theorem S_delMv (H : List HO) (r n : Nat) (f : FuncId) (caps : List AV) (l : List Int) (q : Int → Bool) (hn : l.length = n) (hr : H[r]? = some (.row n 1 (ints' l))) (hl : n < 4611686018427387904) (hq : ∀ cs x, x ∈ l → TS Tryz.prog f (.int .i64 x :: caps) (H.set r (.row n 1 cs)) (pt (.bool (q x)) (H.set r (.row n 1 cs)))) : TS Tryz.prog 91 [.mv r n 1 0 n, .fn (.func f) [] caps] H (fun x H' => ∃ cs, x = .mv r n 1 0 (keepI q l).length ∧ H' = H.set r (.row n 1 cs) ∧ cs.length = n ∧ cs.take (keepI q l).length = ints' (keepI q l)) := by
  subst hn
  have hrl := (List.getElem?_eq_some_iff.1 hr).1
  have hset : H.set r (.row l.length 1 (ints' l)) = H := set_self' hr
  have hix := S_indexMv H r l.length f caps l q rfl hr hl (fun x hx => by have := hq (ints' l) x hx; rwa [hset] at this)
  refine TS.body mix Tryz.func91 (by kernel_rfl) rfl (by kernel_rfl) (by simp) ?_
  simp
  refine TS.pt hix ?_
  cases hf : l.findIdx? q with
  | none =>
    rw [List.findIdx?_eq_none_iff] at hf
    have hk : keepI q l = l := keepI_none fun j hj => hf _ (List.getElem_mem hj)
    simp
    refine ⟨by rw [hk], ints' l, hset.symm, by simp, ?_⟩
    rw [hk]
    simp
  | some j0 =>
    obtain ⟨g1, g2, g3⟩ := List.findIdx?_eq_some_iff_getElem.1 hf
    have ew0 : IntKind.i64.wrap ((j0 : Int) + 1) = ((j0 + 1 : Nat) : Int) := wrap_next g1 (by omega)
    have hk0 : keepI q (l.take (j0 + 1)) = l.take j0 := by
      rw [keepI_next g1, if_pos g2, List.append_nil]
      exact keepI_none fun j hj => by
        rw [List.length_take] at hj
        rw [List.getElem_take]
        simpa using g3 j (by omega)
    have hneg : ¬ ((j0 : Int) = -1) := by omega
    simp [hneg]
    refine vc_loop (fun i : Nat => l.length - i) (fun i e H' => ∃ D R : List Int, e 0 = .mv r l.length 1 0 l.length ∧ e 1 = .fn (.func f) [] caps ∧ e 5 = .int .i64 D.length ∧ e 6 = .int .i64 i ∧ i ≤ l.length ∧ D.length < i ∧ D = keepI q (l.take i) ∧ R = D ++ l.drop D.length ∧ H' = H.set r (.row l.length 1 (ints' R))) (j0 + 1) ?_ ?_
    · have hlt0 : (l.take j0).length = j0 := by rw [List.length_take]; omega
      refine ⟨l.take j0, l, ?_⟩
      simp [hk0, hlt0, ew0]
      exact ⟨by omega, hset.symm⟩
    rintro i e H' ⟨D, R, h0, h1, h5, h6, hi, hki, hD, hR, rfl⟩
    have hRl : R.length = l.length := by rw [hR, List.length_append, List.length_drop]; omega
    by_cases hlt : i < l.length
    · have ew := wrap_next hlt (by omega)
      have hqi := hq (ints' R) l[i] (List.getElem_mem hlt)
      have hnx := keepI_next (q := q) hlt
      rw [← hD] at hnx
      have hil : i < R.length := by omega
      have hRi : R[i] = l[i] := by
        subst hR
        rw [List.getElem_append_right (by omega), List.getElem_drop]
        congr 1
        omega
      have ewD : IntKind.i64.wrap ((D.length : Int) + 1) = ((D.length + 1 : Nat) : Int) := wrap_next hki (by omega)
      simp [h0, h1, h5, h6, hlt, hrl, hil, hRi, hRl]
      refine TS.pt hqi ?_
      cases hqv : q l[i] with
      | true =>
        rw [hqv, if_pos rfl, List.append_nil] at hnx
        simp [h0, h1, h5, h6, hlt, hrl, hil, hRi, hRl]
        exact ⟨i + 1, by omega, D, rfl, ew, by omega, by omega, hnx.symm, by rw [hR]⟩
      | false =>
        rw [hqv] at hnx
        simp at hnx
        simp [h0, h1, h5, h6, hlt, hrl, hil, hRi, hRl]
        have e1 : R.take D.length = D := by rw [hR, List.take_left']; rfl
        have e2 : R.drop (D.length + 1) = l.drop (D.length + 1) := by rw [hR, ← List.drop_drop, List.drop_left, List.drop_drop]
        refine ⟨by omega, by omega, i + 1, by omega, D ++ [l[i]], by simpa using ewD, ew, by omega, by simp; omega, hnx.symm, ?_⟩
        rw [e1, e2]
        simp
    · have hil : i = l.length := by omega
      subst hil
      rw [List.take_length] at hD
      simp [h0, h1, h5, h6, hrl, hRl]
      have e1 : R.take D.length = D := by rw [hR, List.take_left']; rfl
      have e3 : (repeatA [AV.int .i64 0] (l.length - D.length)).length = l.length - D.length := by rw [repeatA_len]; simp
      refine ⟨by omega, by rw [hD], _, rfl, ?_, ?_⟩
      · simp [e1, e3, hRl]
        omega
      · rw [e1, ← hD, List.take_left']
        simp
theorem S_shared1 (H : List HO) (k : Nat) (b : List Int) (v : Int) (hk : H[k]? = some (.box [.sl .no (ints' b)])) (hb : b.length < 4611686018427387904) : TS Tryz.prog 93 [.int .i64 v, .ptr k 0] H (pt (.bool (!decide (v ∈ b))) H) := by
  have hkl := (List.getElem?_eq_some_iff.1 hk).1
  have k1 := T_hasI b v hb
  refine TS.body mix Tryz.func93 (by kernel_rfl) rfl (by kernel_rfl) (by simp) ?_
  simp [hk]
  refine TS.callW k1 (Dws.self (by simp)) ?_
  simp
def sharedI (a b : List Int) : List Int := (setI a).filter fun v => decide (v ∈ b)
theorem sharedI_keep (a b : List Int) : sharedI a b = keepI (fun v => !decide (v ∈ b)) (setI a) := by simp [sharedI, keepI]
theorem rises_filter {q : Int → Bool} {l : List Int} (h : Rises l) : Rises (l.filter q) := List.Pairwise.sublist List.filter_sublist h
theorem setI_len (l : List Int) : (setI l).length ≤ l.length := by
  refine nodup_le ?_ fun x hx => setI_mem.1 hx
  exact (setI_rises l).imp fun h => by omega
theorem T_set (l : List Int) (hl : l.length ≤ 1000000) : T Tryz.prog 92 [.sl .no (ints' l)] (.sl .no (ints' (setI l))) := by
  refine T.introF ((S_set [] l hl).mono ?_)
  rintro r H' ⟨es, c, it, ⟨h1, rfl, rfl⟩ | ⟨h1, rfl, rfl⟩⟩
  · rw [h1]
    exact Frz.slN (f := AV.int .i64) (l := [])
  · exact Frz.mvA (f := AV.int .i64) (sz := 1) (l := setI l) (by simp) rfl
theorem S_indexNil (H : List HO) (g : AV) : TS Tryz.prog 112 [.sl .nil [], g] H (pt (.int .i64 (-1)) H) := by
  refine TS.body mix Tryz.func112 (by kernel_rfl) rfl (by kernel_rfl) (by simp) ?_
  simp
  refine vc_loop (fun i : Nat => 0) (fun i e H' => e 7 = .int .i64 0 ∧ e 8 = .int .i64 0 ∧ H' = H) 0 ?_ ?_
  · simp
  rintro i e H' ⟨h7, h8, rfl⟩
  simp [h7, h8]
theorem S_delNil (H : List HO) (g : AV) : TS Tryz.prog 91 [.sl .nil [], g] H (pt (.sl .nil []) H) := by
  refine TS.body mix Tryz.func91 (by kernel_rfl) rfl (by kernel_rfl) (by simp) ?_
  simp
  refine TS.pt (S_indexNil H g) ?_
  simp
theorem T_shared (a b : List Int) (ha : a.length ≤ 1000000) (hb : b.length < 4611686018427387904) : T Tryz.prog 55 [.sl .no (ints' a), .sl .no (ints' b)] (.sl .no (ints' (sharedI a b))) := by
  refine T.introF (TS.body mix Tryz.func55 (by kernel_rfl) rfl (by kernel_rfl) (by simp) ?_)
  simp
  refine (S_set [.box [.sl .no (ints' b)]] a ha).mono ?_
  rintro r H' ⟨es, c, it, ⟨h1, rfl, rfl⟩ | ⟨h1, rfl, rfl⟩⟩
  · have : sharedI a b = [] := by unfold sharedI; rw [h1]; rfl
    rw [this]
    simp
    refine TS.pt (S_delNil _ _) ?_
    simp
    exact Frz.slN (f := AV.int .i64) (l := [])
  · have hsl := setI_len a
    simp
    refine (S_delMv _ 3 (setI a).length 93 [.ptr 0 0] (setI a) (fun v => !decide (v ∈ b)) rfl rfl (by omega) fun cs x _ => S_shared1 _ 0 b x rfl hb).mono ?_
    rintro x H' ⟨cs, rfl, rfl, h2, h3⟩
    rw [sharedI_keep]
    simp
    refine .mv rfl ?_ (by simp) (fun y hy => by obtain ⟨a, ha, rfl⟩ := mem_avs.1 hy; rfl)
    rw [Nat.zero_mul, List.drop_zero, Nat.mul_one, h3]
    have hfl : ∀ l : List Int, (ints' l).flatMap AV.cells = ints' l := fun l => by induction l with | nil => rfl | cons a l ih => simp
    rw [hfl]
    have := FrzC.refl (H := [.box [.sl .no (ints' b)], .mp es c, it, .row (setI a).length 1 cs]) (Selfs.flat (f := AV.int .i64) (l := keepI (fun v => !decide (v ∈ b)) (setI a)))
    rwa [hfl] at this
end Go.Proofs.YtjplcdeaedflpaaGreatDoor.PL
namespace Go.Proofs.YtjplcdeaedflpaaGreatDoor.PL
open Go.Proofs
set_option linter.unusedVariables false
set_option linter.unusedSimpArgs false
theorem T_has21 (l : List Int) (v : Int) (hl : l.length < 4611686018427387904) : T Tryz.prog 62 [.sl .no (ints' l), .int .i64 v] (.bool (decide (v ∈ l))) := by
  refine T.intro (TS.body mix Tryz.func62 (by kernel_rfl) rfl (by kernel_rfl) (by simp) ?_)
  simp
  refine vc_loop (fun i : Nat => l.length - i) (fun i e H => e 0 = .sl .no (ints' l) ∧ e 1 = .int .i64 v ∧ e 5 = .int .i64 i ∧ i ≤ l.length ∧ v ∉ l.take i) 0 ?_ ?_
  · simp
  rintro i e H ⟨h0, h1, h5, hi, hno⟩
  by_cases h : i < l.length
  · simp [h0, h1, h5, h]
    refine condK_of (fun h' => ?_) (fun h' => ?_)
    · simp at h'
      have : v ∈ l := by rw [← h']; exact List.getElem_mem h
      simp [this]
    · simp at h'
      simp [h0, h1, h5]
      refine ⟨i + 1, by omega, wrap_next h (by omega), by omega, ?_⟩
      rw [take_next h, List.mem_append]
      simp [hno]
      exact fun e => h' e.symm
  · have : i = l.length := by omega
    subst this
    rw [List.take_length] at hno
    simp [h0, h1, h5, hno]
theorem putI_in {v : Int} : ∀ {l : List Int}, Rises l → v ∈ l → putI v l = l
  | x :: l, h, hv => by
    unfold Rises at h
    rw [List.pairwise_cons] at h
    unfold putI
    rcases List.mem_cons.1 hv with rfl | hv
    · simp
    · have := h.1 v hv
      rw [if_pos this, putI_in h.2 hv]
theorem putI_at {v : Int} : ∀ {l : List Int} {k : Nat}, k ≤ l.length → (∀ j (h : j < l.length), j < k → l[j] < v) → (∀ h : k < l.length, ¬ l[k] < v) → v ∉ l → putI v l = l.take k ++ v :: l.drop k
  | [], k, hk, _, _, _ => by simp at hk; subst hk; rfl
  | x :: l, 0, _, _, h2, h3 => by
    have := h2 (by simp)
    simp at this h3
    unfold putI
    rw [if_neg (by omega), if_neg (by omega)]
    rfl
  | x :: l, k + 1, hk, h1, h2, h3 => by
    have h0 : x < v := h1 0 (by simp) (by omega)
    unfold putI
    rw [if_pos h0, putI_at (k := k) (by simpa using hk) (fun j a b => h1 (j + 1) (by simpa using a) (by omega)) (fun a => h2 (by simpa using a)) (fun hm => h3 (List.mem_cons_of_mem _ hm))]
    rfl
theorem T_put21 (l : List Int) (v : Int) (hl : l.length ≤ 1000000) (hr : Rises l) : T Tryz.prog 101 [.sl .no (ints' l), .int .i64 v] (.sl .no (ints' (putI v l))) := by
  have kh := T_has21 l v (by omega)
  refine T.introF (TS.body mix Tryz.func101 (by kernel_rfl) rfl (by kernel_rfl) (by simp) ?_)
  simp
  refine TS.callW kh (Dws.self (by simp)) ?_
  by_cases hv : v ∈ l
  · rw [putI_in hr hv]
    simp [hv]
    exact Frz.slN (f := AV.int .i64)
  · simp [hv]
    refine vc_loop (fun i : Nat => l.length - i) (fun i e H => e 0 = .sl .no (ints' l) ∧ e 1 = .int .i64 v ∧ e 5 = .int .i64 i ∧ i ≤ l.length ∧ (∀ j (h : j < l.length), j < i → l[j] < v) ∧ H = []) 0 ?_ ?_
    · simp
    rintro i e H ⟨h0, h1, h5, hi, hlo, rfl⟩
    have fin : (∀ h : i < l.length, ¬ l[i] < v) → putI v l = l.take i ++ v :: l.drop i := fun h => putI_at hi hlo h hv
    by_cases h : i < l.length
    · by_cases h2 : l[i] < v
      · simp [h0, h1, h5, h, h2]
        refine ⟨i + 1, by omega, wrap_next h (by omega), by omega, fun j hj hji => ?_⟩
        rcases Nat.lt_or_ge j i with h3 | h3
        · exact hlo j hj h3
        · have : j = i := by omega
          subst this; exact h2
      · rw [fin fun _ => h2]
        have hm : min i l.length = i := by omega
        by_cases hi0 : i = 0
        · subst hi0
          simp [h0, h1, h5, h, h2]
          exact ⟨⟨by omega, by omega⟩, Frz.slN (f := AV.int .i64) (l := v :: l)⟩
        · simp [h0, h1, h5, h, h2]
          simp [hm, ownAt, appJ, appK, hi0]
          exact ⟨by omega, ⟨by omega, by omega⟩, ⟨by omega, by omega⟩, by omega, ⟨by omega, by omega⟩, Frz.slN (f := AV.int .i64) (l := l.take i ++ v :: l.drop i)⟩
    · rw [fin fun x => absurd x h]
      have hm : min i l.length = i := by omega
      by_cases hi0 : i = 0
      · subst hi0
        simp [h0, h1, h5, h]
        exact ⟨⟨by omega, by omega⟩, Frz.slN (f := AV.int .i64) (l := v :: l)⟩
      · simp [h0, h1, h5, h]
        simp [hm, ownAt, appJ, appK, hi0]
        exact ⟨by omega, ⟨by omega, by omega⟩, ⟨by omega, by omega⟩, by omega, ⟨by omega, by omega⟩, Frz.slN (f := AV.int .i64) (l := l.take i ++ v :: l.drop i)⟩
theorem setI_next {l : List Int} {i : Nat} (h : i < l.length) : setI (l.take (i + 1)) = putI l[i] (setI (l.take i)) := by
  unfold setI
  rw [take_next h, List.foldl_append]
  rfl
theorem T_rset21 (l : List Int) (hl : l.length ≤ 1000000) : T Tryz.prog 61 [.sl .no (ints' l)] (.sl .no (ints' (setI l))) := by
  refine T.introF (TS.body mix Tryz.func61 (by kernel_rfl) rfl (by kernel_rfl) (by simp) ?_)
  simp
  refine vc_loop (fun i : Nat => l.length - i) (fun i e H => e 0 = .sl .no (ints' l) ∧ (∃ own, e 3 = .sl own (ints' (setI (l.take i)))) ∧ e 4 = .int .i64 i ∧ i ≤ l.length ∧ H = []) 0 ?_ ?_
  · simp [setI]
  rintro i e H ⟨h0, ⟨own, h3⟩, h4, hi, rfl⟩
  by_cases h : i < l.length
  · have hsl := setI_len (l.take i)
    rw [List.length_take] at hsl
    have kp := T_put21 (setI (l.take i)) l[i] (by omega) (setI_rises _)
    rw [← setI_next h] at kp
    simp [h0, h3, h4, h]
    refine TS.callW kp (.cons (.sl (Dws.self (by simp))) (.cons (.self (by simp)) .nil)) ?_
    simp [h0, h3, h4, h]
    exact ⟨i + 1, by omega, rfl, wrap_next h (by omega), by omega⟩
  · have : i = l.length := by omega
    subst this
    simp [h0, h3, h4]
    exact Frz.slN (f := AV.int .i64)
/-- those of the first i that the other has -/
def shR (b : List Int) (l : List Int) : List Int := setI (l.filter fun v => decide (v ∈ b))
theorem shR_next {b l : List Int} {i : Nat} (h : i < l.length) : shR b (l.take (i + 1)) = if l[i] ∈ b then putI l[i] (shR b (l.take i)) else shR b (l.take i) := by
  unfold shR setI
  rw [take_next h, List.filter_append, List.foldl_append]
  by_cases hb : l[i] ∈ b <;> simp [hb]
theorem shR_eq (a b : List Int) : shR b a = sharedI a b := by
  refine rises_eq (setI_rises _) (rises_filter (setI_rises a)) fun x => ?_
  rw [shR, setI_mem, sharedI, List.mem_filter, List.mem_filter, setI_mem]
theorem T_rshared21 (a b : List Int) (ha : a.length ≤ 1000000) (hb : b.length < 4611686018427387904) : T Tryz.prog 75 [.sl .no (ints' a), .sl .no (ints' b)] (.sl .no (ints' (sharedI a b))) := by
  refine T.introF (TS.body mix Tryz.func75 (by kernel_rfl) rfl (by kernel_rfl) (by simp) ?_)
  simp
  refine vc_loop (fun i : Nat => a.length - i) (fun i e H => e 0 = .sl .no (ints' a) ∧ e 1 = .sl .no (ints' b) ∧ (∃ own, e 5 = .sl own (ints' (shR b (a.take i)))) ∧ e 6 = .int .i64 i ∧ i ≤ a.length ∧ H = []) 0 ?_ ?_
  · simp [shR, setI]
  rintro i e H ⟨h0, h1, ⟨own, h5⟩, h6, hi, rfl⟩
  by_cases h : i < a.length
  · have hsl : (shR b (a.take i)).length ≤ i := by
      have h1 := setI_len ((a.take i).filter fun v => decide (v ∈ b))
      have h2 := List.length_filter_le (fun v => decide (v ∈ b)) (a.take i)
      rw [List.length_take] at h2
      unfold shR
      omega
    have kh := T_has21 b a[i] hb
    have kp := T_put21 (shR b (a.take i)) a[i] (by omega) (setI_rises _)
    have hnx := shR_next (b := b) h
    simp [h0, h1, h5, h6, h]
    refine TS.callW kh (Dws.self (by simp)) ?_
    by_cases hv : a[i] ∈ b
    · rw [if_pos hv] at hnx
      rw [← hnx] at kp
      simp [h0, h1, h5, h6, h, hv]
      refine TS.callW kp (.cons (.sl (Dws.self (by simp))) (.cons (.self (by simp)) .nil)) ?_
      simp [h0, h1, h5, h6, h]
      exact ⟨i + 1, by omega, rfl, wrap_next h (by omega), by omega⟩
    · rw [if_neg hv] at hnx
      simp [h0, h1, h5, h6, h, hv]
      exact ⟨i + 1, by omega, by rw [hnx], wrap_next h (by omega), by omega⟩
  · have : i = a.length := by omega
    subst this
    rw [List.take_length, shR_eq] at h5
    simp [h0, h1, h5, h6]
    exact Frz.slN (f := AV.int .i64)
end Go.Proofs.YtjplcdeaedflpaaGreatDoor.PL
namespace Go.Proofs.YtjplcdeaedflpaaGreatDoor.PL
open Go.Proofs
set_option linter.unusedVariables false
set_option linter.unusedSimpArgs false
abbrev natA (k : Nat) : AV := .int .i64 (k : Int)
instance : Sized natA 1 := ⟨fun _ => rfl⟩
instance : Plain natA := ⟨fun _ => rfl⟩
abbrev nats' (l : List Nat) : List AV := avs natA l
@[simp] theorem nats_flat {l : List Nat} : (avs natA l).flatMap AV.cells = avs natA l := avs_flat1 fun _ => rfl
/-- the classes stand at C, their row at R -/
def UfAt (H : List HO) (C R : Nat) (up : List Nat) : Prop :=
  (up = [] ∧ ∃ own, own ≠ .no ∧ H[C]? = some (.box [.sl own []])) ∨ (up ≠ [] ∧ H[C]? = some (.box [.mv R up.length 1 0 up.length]) ∧ H[R]? = some (.row up.length 1 (nats' up)))
/-- each hangs on none later -/
def UfOk (up : List Nat) : Prop := ∀ i (h : i < up.length), up[i] ≤ i
def rtF : Nat → List Nat → Nat → Nat
  | 0, _, i => i
  | f + 1, up, i => if up.getD i 0 = i then i else rtF f up (up.getD i 0)
def rt (up : List Nat) (i : Nat) : Nat := rtF (i + 1) up i
theorem UfOk.le {up : List Nat} (ok : UfOk up) (i : Nat) : up.getD i 0 ≤ i := by
  rcases Nat.lt_or_ge i up.length with h | h
  · have := ok i h
    simpa [h] using this
  · simp [h]
theorem rt_root {up : List Nat} {i : Nat} (h : up.getD i 0 = i) : rt up i = i := by unfold rt rtF; rw [if_pos h]
theorem UfOk.set {up : List Nat} (ok : UfOk up) {i r : Nat} (h : r ≤ i) : UfOk (up.set i r) := by
  intro k hk
  rw [List.getElem_set]
  split
  · rename_i e; omega
  · exact ok k (by simpa using hk)
theorem UfAt.set {H : List HO} {C R : Nat} {up vp : List Nat} (h : UfAt H C R up) (hCR : C ≠ R) (hl : vp.length = up.length) (hne : up ≠ []) : UfAt (H.set R (.row up.length 1 (nats' vp))) C R vp := by
  rcases h with ⟨h, _⟩ | ⟨_, hC, hR⟩
  · exact absurd h hne
  · refine .inr ⟨fun e => hne ?_, ?_, ?_⟩
    · subst e; exact List.eq_nil_of_length_eq_zero hl.symm
    · rw [List.getElem?_set_ne (fun e => hCR e.symm), hl]; exact hC
    · rw [List.getElem?_set_self (List.getElem?_eq_some_iff.1 hR).1, hl]
def newH (H : List HO) (n : Nat) : List HO := if n = 0 then H ++ [.box [.sl .exact []]] else H ++ [.box [.mv (H.length + 1) n 1 0 n], .row n 1 (nats' (List.range n))]
theorem new_at (H : List HO) (n : Nat) : UfAt (newH H n) H.length (H.length + 1) (List.range n) := by
  unfold newH UfAt
  by_cases h : n = 0
  · subst h
    exact .inl ⟨rfl, .exact, by simp, by simp⟩
  · rw [if_neg h]
    exact .inr ⟨by simpa using h, by simp, by simp⟩
theorem range_ok (n : Nat) : UfOk (List.range n) := fun i h => by simp
theorem rt_range (n k : Nat) (h : k < n) : rt (List.range n) k = k := rt_root (by simp [h])

end Go.Proofs.YtjplcdeaedflpaaGreatDoor.PL
namespace Go.Proofs.YtjplcdeaedflpaaGreatDoor.PL
open Go.Proofs
set_option linter.unusedVariables false
set_option linter.unusedSimpArgs false
/-- the reference's list tells the roots -/
def Same06 (up r : List Nat) : Prop := r.length = up.length ∧ ∀ k, k < up.length → r.getD k 0 = rt up k
theorem same_new (n : Nat) : Same06 (List.range n) (List.range n) := ⟨rfl, fun k hk => by
  rw [rt_range n k (by simpa using hk)]
  simp at hk
  simp [hk]⟩
abbrev pairA (p : Int × Int) : AV := .agg [.int .i64 p.1, .int .i64 p.2]
instance : Sized pairA 2 := ⟨fun _ => rfl⟩
instance : Plain pairA := ⟨fun _ => rfl⟩
end Go.Proofs.YtjplcdeaedflpaaGreatDoor.PL
namespace Go.Proofs.YtjplcdeaedflpaaGreatDoor.PL
open Go.Proofs
set_option linter.unusedVariables false
set_option linter.unusedSimpArgs false
instance : Selfs natA := ⟨fun a x h => by simp [AV.cells] at h; subst h; simp⟩
theorem UfAt.app {H L : List HO} {C R : Nat} {up : List Nat} (h : UfAt H C R up) : UfAt (H ++ L) C R up := by
  rcases h with ⟨h1, own, ho, hC⟩ | ⟨h1, hC, hR⟩
  · exact .inl ⟨h1, own, ho, getElem?_app hC⟩
  · exact .inr ⟨h1, getElem?_app hC, getElem?_app hR⟩
/-- the classes stand, each number's class told by ρ -/
def UfS (H : List HO) (C R n : Nat) (ρ : Nat → Nat) : Prop := ∃ up, UfAt H C R up ∧ UfOk up ∧ up.length = n ∧ ∀ k, k < n → rt up k = ρ k
structure UfStep (H H' : List HO) (C R n : Nat) (ρ : Nat → Nat) : Prop where
  st : UfS H' C R n ρ
  len : H'.length = H.length
  oth : ∀ j, (j ≠ R ∨ n = 0) → H'[j]? = H[j]?
  new : ∀ h : HO, h ∈ H' → h ∈ H ∨ h.lt H'.length = true
theorem UfStep.refl {H : List HO} {C R n : Nat} {ρ : Nat → Nat} (h : UfS H C R n ρ) : UfStep H H C R n ρ := ⟨h, rfl, fun _ _ => rfl, fun _ h => .inl h⟩
theorem UfStep.trans {H H' H'' : List HO} {C R n : Nat} {ρ ρ' : Nat → Nat} (h : UfStep H H' C R n ρ) (k : UfStep H' H'' C R n ρ') : UfStep H H'' C R n ρ' :=
  ⟨k.st, k.len.trans h.len, fun j hj => (k.oth j hj).trans (h.oth j hj), fun x hx => by
    rcases k.new x hx with h1 | h1
    · rcases h.new x h1 with h2 | h2
      · exact .inl h2
      · exact .inr (by rw [k.len]; exact h2)
    · exact .inr h1⟩
theorem UfS.at {H : List HO} {C R n : Nat} {ρ : Nat → Nat} (h : UfS H C R n ρ) : ∃ up, UfAt H C R up ∧ up.length = n := by
  obtain ⟨up, h1, _, h2, _⟩ := h
  exact ⟨up, h1, h2⟩
end Go.Proofs.YtjplcdeaedflpaaGreatDoor.PL
namespace Go.Proofs.YtjplcdeaedflpaaGreatDoor.PL
open Go.Proofs
set_option linter.unusedVariables false
set_option linter.unusedSimpArgs false
abbrev vals' (l : List Val) : List AV := avs Val.av l
abbrev rowA (l : List Val) : AV := .sl .no (vals' l)
abbrev rows' (l : List (List Val)) : List AV := avs (fun r => AV.sl .no (vals' r)) l
instance : Plain (fun r => AV.sl .no (vals' r)) := ⟨fun r => by simp⟩

theorem reach_lt : reachBytes ≤ 140737488355328 := by decide
def muchN (r : List Val) : Int := (r.map fun v => 1 + (v.s.size : Int)).sum
def muchL : List (List Val) → Int → Bool
  | [], _ => false
  | r :: rs, n => if 40 < r.length then true else if 2000 < n + muchN r then true else muchL rs (n + muchN r)
def much (L : List (List Val)) : Bool := muchL (L.take 60) 0 || decide (50 < L.length)
theorem muchN_pos : ∀ r : List Val, 0 ≤ muchN r
  | [] => by simp [muchN]
  | v :: r => by have := muchN_pos r; simp only [muchN, List.map_cons, List.sum_cons] at *; omega
theorem muchN_next {r : List Val} {j : Nat} (h : j < r.length) : muchN (r.take (j + 1)) = muchN (r.take j) + (1 + (r[j].s.size : Int)) := by
  unfold muchN; rw [take_next h, List.map_append, List.sum_append]; simp
theorem muchN_le {r : List Val} (hr : ∀ v, v ∈ r → v.s.size ≤ reachBytes) : muchN r ≤ (1 + reachBytes : Int) * r.length := by
  induction r with
  | nil => simp [muchN]
  | cons v r ih =>
    have h1 := ih fun v hv => hr v (List.mem_cons_of_mem _ hv)
    have h2 := hr v (List.mem_cons_self ..)
    simp only [muchN, List.map_cons, List.sum_cons, List.length_cons] at *
    rw [Int.natCast_add, Int.mul_add]
    omega
theorem muchN_mem {r : List Val} {v : Val} (h : v ∈ r) : 1 + (v.s.size : Int) ≤ muchN r := by
  induction r with
  | nil => cases h
  | cons w r ih =>
    have := muchN_pos r
    simp only [muchN, List.map_cons, List.sum_cons] at *
    rcases List.mem_cons.1 h with rfl | h
    · omega
    · have := ih h; omega
theorem muchL_no : ∀ {L : List (List Val)} {n : Int}, 0 ≤ n → muchL L n = false → ∀ r, r ∈ L → r.length ≤ 40 ∧ ∀ v, v ∈ r → v.s.size ≤ 2000
  | [], _, _, _, r, hr => by cases hr
  | q :: L, n, hn, h, r, hr => by
    unfold muchL at h
    split at h
    · cases h
    · split at h
      · cases h
      · have hq := muchN_pos q
        rcases List.mem_cons.1 hr with rfl | hr
        · refine ⟨by omega, fun v hv => ?_⟩
          have := muchN_mem hv
          omega
        · exact muchL_no (by omega) h r hr
theorem much_no {L : List (List Val)} (h : much L = false) : L.length ≤ 50 ∧ ∀ r, r ∈ L → r.length ≤ 40 ∧ ∀ v, v ∈ r → v.s.size ≤ 2000 := by
  unfold much at h
  simp at h
  refine ⟨h.2, fun r hr => muchL_no (Int.le_refl _) h.1 r ?_⟩
  rwa [List.take_of_length_le (by omega)]
theorem T_much (L : List (List Val)) (hL : L.length < 4611686018427387904) (hv : ∀ r, r ∈ L → ∀ v, v ∈ r → v.s.size ≤ reachBytes) : T Tryz.prog 46 [.sl .no (rows' L)] (.bool (much L)) := by
  have hrl := reach_lt
  refine T.intro (TS.body mix Tryz.func46 (by kernel_rfl) rfl (by kernel_rfl) (by simp) ?_)
  simp
  refine vc_loop (fun i : Nat => 60 - i) (fun i e H => ∃ n : Int, e 0 = .sl .no (rows' L) ∧ e 3 = .int .i64 n ∧ e 4 = .int .i64 i ∧ 0 ≤ n ∧ n ≤ 2000 ∧ i ≤ 60 ∧ i ≤ L.length ∧ much L = (muchL ((L.take 60).drop i) n || decide (50 < L.length))) 0 ?_ ?_
  · exact ⟨0, by simp [much]⟩
  rintro i e H ⟨n, h0, h3, h4, hn, hn2, hi, hi2, hm⟩
  by_cases hlt : i < L.length ∧ i < 60
  · have hlt' : i < (L.take 60).length := by rw [List.length_take]; omega
    have ed : (L.take 60).drop i = L[i] :: (L.take 60).drop (i + 1) := by rw [List.drop_eq_getElem_cons hlt', List.getElem_take]
    have hv' := hv L[i] (List.getElem_mem hlt.1)
    generalize hq : L[i] = q at *
    have h60 : ((i : Int) < 60) = True := eq_true (by omega)
    simp [h0, h3, h4, hlt.1, h60, hq]
    refine condK_of (fun h5 => ?_) (fun h5 => ?_)
    · simp at h5
      simp
      rw [hm, ed, muchL, if_pos (by omega)]; simp
    simp at h5
    have hqn := muchN_le hv'
    have hqb : (1 + (reachBytes : Int)) * q.length ≤ (1 + reachBytes) * 40 := Int.mul_le_mul_of_nonneg_left (by omega) (by omega)
    simp
    refine vc_loop (fun j : Nat => q.length - j) (fun j e H => e 0 = .sl .no (rows' L) ∧ e 3 = .int .i64 (n + muchN (q.take j)) ∧ e 4 = .int .i64 i ∧ e 5 = .int .i64 j ∧ j ≤ q.length) 0 ?_ ?_
    · simp [h0, h3, h4, muchN]
    clear h0 h3 h4 e
    rintro j e H ⟨h0, h3, h4, h5', hj⟩
    by_cases hjl : j < q.length
    · have en := muchN_next hjl
      have h1 := muchN_pos (q.take j)
      have h2 := muchN_le (r := q.take j) fun v hv => hv' v (List.mem_of_mem_take hv)
      have h3b : (1 + (reachBytes : Int)) * (q.take j).length ≤ (1 + reachBytes) * 40 := Int.mul_le_mul_of_nonneg_left (by rw [List.length_take]; omega) (by omega)
      have h6 := hv' q[j] (List.getElem_mem hjl)
      have w1 : IntKind.i64.wrap (n + muchN (q.take j) + 1) = n + muchN (q.take j) + 1 := wrap_i64 (by omega) (by omega)
      have w2 : IntKind.i64.wrap (n + muchN (q.take j) + 1 + q[j].s.size) = n + muchN (q.take (j + 1)) := by rw [wrap_i64 (by omega) (by omega)]; omega
      simp [h0, h3, h4, h5', hlt.1, hq, hjl, w1, w2]
      exact ⟨j + 1, by omega, rfl, wrap_next hjl (by omega), by omega⟩
    · have hje : j = q.length := by omega
      subst hje
      rw [List.take_length] at h3
      simp [h0, h3, h4, h5', hlt.1, hq]
      refine condK_of (fun h6 => ?_) (fun h6 => ?_)
      · simp at h6
        simp
        rw [hm, ed, muchL, if_neg (by omega), if_pos h6]; simp
      · simp at h6
        have hqp := muchN_pos q
        simp [h0, h3, h4, h5', hlt.1, hq]
        exact ⟨i + 1, by omega, wrap_next hlt.1 (by omega), by omega, h6, by omega, by omega, by rw [hm, ed, muchL, if_neg (by omega), if_neg (by omega)]⟩
  · have hc : (decide (i < L.length) && decide ((i : Int) < 60)) = false := by simp; omega
    have he : (L.take 60).drop i = [] := List.drop_of_length_le (by rw [List.length_take]; omega)
    simp [h0, h3, h4, hc]
    rw [hm, he]; simp [muchL]; try omega
/-- a list of values, as it comes in -/
def valIn (v : Val) : Prop := (-9223372036854775808 ≤ v.k ∧ v.k < 9223372036854775808) ∧ (-9223372036854775808 ≤ v.i ∧ v.i < 9223372036854775808) ∧ v.s.size ≤ reachBytes
theorem vals_in {cs : List AV} (h : Sh Tryz.prog 59 cs) : ∃ l : List Val, cs = [rowA l] ∧ (∀ v, v ∈ l → valIn v) ∧ l.length < 4611686018427387904 := by
  obtain ⟨ys, rfl, hy, b⟩ := h.sl_of un_59 ag_58
  obtain ⟨l, e, el, hl⟩ := list_in (f := Val.av) (g := mkAV true) (Q := valIn) (fun y hy' => by
    obtain ⟨v, e, _, h1, h2, h3⟩ := Val_in (hy y hy')
    exact ⟨v, e, h1, h2, h3⟩)
  have hb : 1 ≤ Tryz.prog.bytesOf 58 := by decide +kernel
  have hr := reach_lt
  have := Nat.mul_le_mul_left ys.length hb
  exact ⟨l, by rw [e]; rfl, hl, by omega⟩
end Go.Proofs.YtjplcdeaedflpaaGreatDoor.PL
namespace Go.Proofs.YtjplcdeaedflpaaGreatDoor.PL
open Go.Proofs
set_option linter.unusedVariables false
set_option linter.unusedSimpArgs false
/-! the order plays no part -/
theorem UfS.keep {H H' : List HO} {C R n : Nat} {ρ : Nat → Nat} (h : UfS H C R n ρ) (hC : H'[C]? = H[C]?) (hR : n ≠ 0 → H'[R]? = H[R]?) : UfS H' C R n ρ := by
  obtain ⟨up, hat, ok, hn, hr⟩ := h
  refine ⟨up, ?_, ok, hn, hr⟩
  rcases hat with ⟨h1, own, ho, h2⟩ | ⟨h1, h2, h3⟩
  · exact .inl ⟨h1, own, ho, by rw [hC]; exact h2⟩
  · have : n ≠ 0 := by rintro rfl; exact h1 (List.eq_nil_of_length_eq_zero hn)
    exact .inr ⟨h1, by rw [hC]; exact h2, by rw [hR this]; exact h3⟩
/-- two of them -/
def Two (C R : Nat) (n : Nat) (ρ : Nat → Nat) (H : List HO) : Prop := UfS H 0 1 n ρ ∧ UfS H C R n ρ
theorem Two.one {C R n : Nat} {ρ : Nat → Nat} {H H' : List HO} (h : Two C R n ρ H) (hC : n ≠ 0 → 1 < C) (hR : R = C + 1) (hs : UfStep H H' 0 1 n ρ) : Two C R n ρ H' :=
  ⟨hs.st, h.2.keep (hs.oth _ (by by_cases e : n = 0; exact .inr e; have := hC e; exact .inl (by omega))) fun e => hs.oth _ (.inl (by have := hC e; omega))⟩
theorem Two.two {C R n : Nat} {ρ : Nat → Nat} {H H' : List HO} (h : Two C R n ρ H) (hC : 0 < C) (hR : R = C + 1) (hs : UfStep H H' C R n ρ) : Two C R n ρ H' :=
  ⟨h.1.keep (hs.oth _ (.inl (by omega))) fun _ => hs.oth _ (.inl (by omega)), hs.st⟩
end Go.Proofs.YtjplcdeaedflpaaGreatDoor.PL
namespace Go.Proofs.YtjplcdeaedflpaaGreatDoor.PL
open Go.Proofs
set_option linter.unusedVariables false
set_option linter.unusedSimpArgs false
/-- the classes stand, and the reference's list tells them -/
def UfRef (H : List HO) (C R n : Nat) (r : List Nat) : Prop := ∃ up, UfAt H C R up ∧ UfOk up ∧ up.length = n ∧ Same06 up r
theorem UfRef.new (H : List HO) (n : Nat) : UfRef (newH H n) H.length (H.length + 1) n (List.range n) := ⟨List.range n, new_at H n, range_ok n, by simp, same_new n⟩
theorem UfRef.len {H : List HO} {C R n : Nat} {r : List Nat} (h : UfRef H C R n r) : r.length = n := by
  obtain ⟨up, h1, h2, h3, h4⟩ := h
  rw [h4.1, h3]
end Go.Proofs.YtjplcdeaedflpaaGreatDoor.PL
namespace Go.Proofs.YtjplcdeaedflpaaGreatDoor.PL
open Go.Proofs
set_option linter.unusedVariables false
set_option linter.unusedSimpArgs false
def earA (e : Nat × Nat) : AV := .agg [.int .i64 (e.1 : Nat), .int .i64 (e.2 : Nat)]
instance : Sized earA 2 := ⟨fun _ => rfl⟩
instance : Plain earA := ⟨fun _ => rfl⟩
instance : Selfs earA := ⟨fun a x h => by simp [earA] at h; rcases h with rfl | rfl <;> simp⟩
end Go.Proofs.YtjplcdeaedflpaaGreatDoor.PL
namespace Go.Proofs.YtjplcdeaedflpaaGreatDoor.PL
open Go.Proofs
set_option linter.unusedVariables false
set_option linter.unusedSimpArgs false
/-- the way up, of so many steps at most -/
def upF (ps : List Int) : Nat → Int → List Int
  | 0, _ => []
  | m + 1, i => if 0 ≤ i ∧ i < ps.length then i :: upF ps m (ps.getD i.toNat 0) else []
def upI (ps : List Int) (i : Int) : List Int := upF ps ps.length i
theorem upF_mem {ps : List Int} : ∀ {m : Nat} {i : Int} {x : Int}, x ∈ upF ps m i → 0 ≤ x ∧ x < ps.length
  | 0, i, x, h => by cases h
  | m + 1, i, x, h => by
    rw [upF] at h
    split at h
    · rename_i hc
      rcases List.mem_cons.1 h with rfl | h
      · exact hc
      · exact upF_mem h
    · cases h
theorem upF_len {ps : List Int} : ∀ (m : Nat) (i : Int), (upF ps m i).length ≤ m
  | 0, i => by simp [upF]
  | m + 1, i => by
    rw [upF]
    split
    · have := upF_len (ps := ps) m (ps.getD i.toNat 0)
      rw [List.length_cons]; omega
    · simp
set_option maxRecDepth 4000 in
theorem T_rup (ps : List Int) (i : Int) (hl : ps.length ≤ 1000000) : T Tryz.prog 71 [.sl .no (ints' ps), .int .i64 i] (.sl .no (ints' (upI ps i))) := by
  refine T.introF (TS.body mix Tryz.func71 (by kernel_rfl) rfl (by kernel_rfl) (by simp) ?_)
  simp
  refine vc_loop (fun n : Nat => ps.length - n) (fun n e H => ∃ (A : List Int) (c : Int), e 0 = .sl .no (ints' ps) ∧ e 1 = .int .i64 c ∧ e 6 = .int .i64 n ∧ n ≤ ps.length ∧ A.length = n ∧ Grow1 1 H (e 5) (ints' A) ∧ upI ps i = A ++ upF ps (ps.length - n) c) 0 ?_ ?_
  · exact ⟨[], i, by simp, by simp, by simp, Nat.zero_le _, rfl, .inl ⟨rfl, by simp⟩, by simp [upI]⟩
  rintro n e H ⟨A, c, e0, e1, e6, hn, hA, hg, hu⟩
  by_cases hlt : n < ps.length
  · have ew := wrap_next hlt (by omega)
    obtain ⟨m, hm⟩ : ∃ m, ps.length - n = m + 1 := ⟨ps.length - n - 1, by omega⟩
    have hm2 : ps.length - (n + 1) = m := by omega
    by_cases hc : 0 ≤ c ∧ c < ps.length
    · obtain ⟨k, rfl⟩ : ∃ k : Nat, c = k := ⟨c.toNat, by omega⟩
      have hk : k < ps.length := by omega
      rw [hm, upF, if_pos hc] at hu
      have hgk : ps.getD (k : Int).toNat 0 = ps[k] := by simp [hk]
      rw [hgk] at hu
      rcases hg with ⟨ge, hg⟩ | ⟨t, hg, ht⟩
      · rw [avs_eq_nil] at ge
        subst ge
        simp [e0, e1, e6, hlt, hk, hg]
        refine ⟨n + 1, by omega, ew, by omega, [(k : Int)], by simp at hA ⊢; omega, Grow1.first (f := AV.int .i64) (l := []) rfl rfl, ?_⟩
        rw [hu, hm2]; rfl
      · simp [e0, e1, e6, hlt, hk, hg, ht]
        refine ⟨⟨by omega, by omega⟩, n + 1, by omega, ew, by omega, A ++ [(k : Int)], by simp [hA], Grow1.more (f := AV.int .i64) (l := A) (a := (k : Int)) (n := A.length + 1) ht rfl, ?_⟩
        rw [hu, hm2]; simp
    · rw [hm, upF, if_neg hc, List.append_nil] at hu
      rw [hu]
      by_cases h1 : 0 ≤ c
      · have h2 : ¬ c < ps.length := fun h => hc ⟨h1, h⟩
        simp [e0, e1, e6, hlt, h1, h2]
        obtain ⟨own, ho⟩ := hg.own
        rw [ho]
        exact Frz.slN
      · simp [e0, e1, e6, hlt, h1]
        obtain ⟨own, ho⟩ := hg.own
        rw [ho]
        exact Frz.slN
  · have : n = ps.length := by omega
    rw [this, Nat.sub_self, upF, List.append_nil] at hu
    rw [hu]
    simp [e0, e1, e6, hlt]
    obtain ⟨own, ho⟩ := hg.own
    rw [ho]
    exact Frz.slN
def endOk (ps : List Int) (i : Nat) : Bool := decide (ps.getD ((upI ps i).getLast?.getD 0).toNat 0 = -1)
def treeI (ps : List Int) : Bool := (List.range ps.length).all (endOk ps) && (decide (ps.length = 0) || decide (ps.count (-1) = 1))
theorem upI_ne {ps : List Int} {i : Nat} (h : i < ps.length) : upI ps i ≠ [] := by
  unfold upI
  obtain ⟨m, hm⟩ : ∃ m, ps.length = m + 1 := ⟨ps.length - 1, by omega⟩
  have hc : 0 ≤ (i : Int) ∧ (i : Int) < ps.length := ⟨by omega, by omega⟩
  rw [hm, upF, if_pos hc]
  simp
theorem count_next {l : List Int} {i : Nat} (h : i < l.length) (a : Int) : (l.take (i + 1)).count a = (l.take i).count a + if l[i] = a then 1 else 0 := by
  rw [take_next h, List.count_append]
  by_cases c : l[i] = a <;> simp [c]
theorem all_range {q : Nat → Bool} {n : Nat} (h : ∀ j, j < n → q j = true) : (List.range n).all q = true := by
  rw [List.all_eq_true]
  intro x hx
  exact h x (by simpa using hx)
theorem all_range_no {q : Nat → Bool} {n j : Nat} (hj : j < n) (h : q j = false) : (List.range n).all q = false := by
  rw [List.all_eq_false]
  exact ⟨j, by simpa using hj, by simp [h]⟩
set_option maxRecDepth 4000 in
theorem T_rtree (ps : List Int) (hl : ps.length ≤ 1000000) : T Tryz.prog 33 [.sl .no (ints' ps)] (.bool (treeI ps)) := by
  refine T.intro (TS.body mix Tryz.func33 (by kernel_rfl) rfl (by kernel_rfl) (by simp) ?_)
  simp
  refine vc_loop (fun i : Nat => ps.length - i) (fun i e H => e 0 = .sl .no (ints' ps) ∧ e 3 = .int .i64 ((ps.take i).count (-1) : Nat) ∧ e 4 = .int .i64 i ∧ i ≤ ps.length ∧ ∀ j, j < i → endOk ps j = true) 0 ?_ ?_
  · simp
  rintro i e H ⟨e0, e3, e4, hi, hno⟩
  by_cases hlt : i < ps.length
  · have ew := wrap_next hlt (by omega)
    have ku := T_rup ps i hl
    have hne := upI_ne hlt
    have hmem : ∀ x, x ∈ upI ps i → 0 ≤ x ∧ x < ps.length := fun x hx => upF_mem hx
    have hul : (upI ps i).length ≤ ps.length := upF_len _ _
    have hq : endOk ps i = decide (ps.getD ((upI ps i).getLast?.getD 0).toNat 0 = -1) := rfl
    generalize upI ps i = U at *
    have hU : 0 < U.length := List.length_pos_iff.2 hne
    have hlast : U.getLast?.getD 0 = U[U.length - 1] := by
      rw [List.getLast?_eq_getElem?, List.getElem?_eq_getElem (by omega)]; rfl
    rw [hlast] at hq
    have hm2 := hmem _ (List.getElem_mem (l := U) (n := U.length - 1) (by omega))
    obtain ⟨k, hk⟩ : ∃ k : Nat, U[U.length - 1] = (k : Int) := ⟨(U[U.length - 1]).toNat, by omega⟩
    rw [hk] at hq hm2
    have hkl : k < ps.length := by omega
    have hgk : ps.getD (k : Int).toNat 0 = ps[k] := by simp [hkl]
    rw [hgk] at hq
    have ew1 : IntKind.i64.wrap ((U.length : Int) - 1) = ((U.length - 1 : Nat) : Int) := by rw [wrap_i64 (by omega) (by omega)]; omega
    have hlt2 : U.length - 1 < U.length := by omega
    have hcn := count_next hlt (-1)
    have hcl : (ps.take i).count (-1) ≤ i := Nat.le_trans List.count_le_length (by simp; omega)
    have ew2 : IntKind.i64.wrap (((ps.take i).count (-1) : Nat) + 1 : Int) = (((ps.take i).count (-1) + 1 : Nat) : Int) := by rw [wrap_i64 (by omega) (by omega)]; omega
    simp [e0, e3, e4, hlt]
    refine TS.callW ku (Dws.self (by simp)) ?_
    simp [e0, e3, e4, hlt, ew1, hlt2, hk, hkl]
    refine condK_of (fun c => ?_) (fun c => ?_)
    · have : treeI ps = false := by
        unfold treeI
        rw [all_range_no hlt (by rw [hq]; simpa using c), Bool.false_and]
      rw [this]
      simp
    · have c1 : ps[k] = -1 := by simpa using c
      have hno2 : ∀ j, j < i + 1 → endOk ps j = true := by
        intro j hj
        rcases Nat.lt_or_ge j i with h2 | h2
        · exact hno j h2
        · have : j = i := by omega
          subst this; rw [hq]; simpa using c1
      by_cases c2 : ps[i] = -1
      · rw [if_pos c2] at hcn
        simp [e0, e3, e4, hlt, c2]
        exact ⟨i + 1, by omega, by rw [hcn]; exact ew2, ew, by omega, hno2⟩
      · rw [if_neg c2] at hcn
        simp [e0, e3, e4, hlt, c2]
        exact ⟨i + 1, by omega, by rw [hcn]; rfl, ew, by omega, hno2⟩
  · have : i = ps.length := by omega
    subst this
    rw [List.take_length] at e3
    have : treeI ps = (decide (ps.length = 0) || decide (ps.count (-1) = 1)) := by
      unfold treeI
      rw [all_range hno, Bool.true_and]
    rw [this]
    by_cases c0 : ps.length = 0
    · have := List.eq_nil_of_length_eq_zero c0
      subst this
      simp at e0 e3 e4
      simp [e0, e3, e4]
    · have c1 : ¬ (ps.length : Int) = 0 := by omega
      have c2 : ¬ ps = [] := fun h => c0 (by rw [h]; rfl)
      simp [e0, e3, e4, c1, c2]
      try omega
end Go.Proofs.YtjplcdeaedflpaaGreatDoor.PL
namespace Go.Proofs.YtjplcdeaedflpaaGreatDoor.PL
open Go.Proofs
set_option linter.unusedVariables false
set_option linter.unusedSimpArgs false
/-- the nodes that are handed on, till one is told to be the last -/
def climbF (ps : List Int) (go : Int → Bool) : Nat → Int → List Int
  | 0, _ => []
  | m + 1, i => if 0 ≤ i ∧ i < ps.length then i :: (if go i = true then climbF ps go m (ps.getD i.toNat 0) else []) else []
theorem climb_all {ps : List Int} : ∀ (m : Nat) (i : Int), climbF ps (fun _ => true) m i = upF ps m i
  | 0, i => rfl
  | m + 1, i => by rw [climbF, upF, if_pos rfl, climb_all m]
def isEnd (ps : List Int) (x : Int) : Bool := decide (ps.getD x.toNat 0 = -1)
theorem climb_end {ps : List Int} : ∀ (m : Nat) (i : Int), climbF ps (fun x => !isEnd ps x) m i = upF ps m i
  | 0, i => rfl
  | m + 1, i => by
    rw [climbF, upF, climb_end m]
    cases h : isEnd ps i with
    | false => simp
    | true =>
      have h1 : ps.getD i.toNat 0 = -1 := by unfold isEnd at h; simpa using h
      rw [h1]
      have : upF ps m (-1) = [] := by cases m with | zero => rfl | succ m => rw [upF, if_neg (by omega)]
      rw [this]
      simp
theorem S_climb (ps : List Int) (i : Int) (f : FuncId) (caps : List AV) (go : Int → Bool) (Inv : List Int → List HO → Prop) (H : List HO) (h0 : Inv [] H) (hl : ps.length ≤ 1000000)
    (hf : ∀ (A : List Int) (x : Nat) (H : List HO), x < ps.length → A.length < ps.length → Inv A H → TS Tryz.prog f (.int .i64 (x : Int) :: caps) H (fun r H' => r = .bool (go x) ∧ Inv (A ++ [(x : Int)]) H')) :
    TS Tryz.prog 136 [.sl .no (ints' ps), .int .i64 i, .fn (.func f) [] caps] H (fun r H' => r = .tup [] ∧ Inv (climbF ps go ps.length i) H') := by
  refine TS.body mix Tryz.func136 (by kernel_rfl) rfl (by kernel_rfl) (by simp) ?_
  simp
  refine vc_loop (fun n : Nat => ps.length - n) (fun n e H => ∃ (A : List Int) (c : Int), e 0 = .sl .no (ints' ps) ∧ e 1 = .int .i64 c ∧ e 2 = .fn (.func f) [] caps ∧ e 7 = .int .i64 ps.length ∧ e 8 = .int .i64 n ∧ n ≤ ps.length ∧ A.length = n ∧ Inv A H ∧ climbF ps go ps.length i = A ++ climbF ps go (ps.length - n) c) 0 ?_ ?_
  · exact ⟨[], i, by simp, by simp, by simp, by simp, by simp, Nat.zero_le _, rfl, h0, by simp⟩
  rintro n e H ⟨A, c, e0, e1, e2, e7, e8, hn, hA, hI, hu⟩
  by_cases hlt : n < ps.length
  · have ew := wrap_next hlt (by omega)
    obtain ⟨m, hm⟩ : ∃ m, ps.length - n = m + 1 := ⟨ps.length - n - 1, by omega⟩
    have hm2 : ps.length - (n + 1) = m := by omega
    by_cases hc : 0 ≤ c ∧ c < ps.length
    · obtain ⟨k, rfl⟩ : ∃ k : Nat, c = k := ⟨c.toNat, by omega⟩
      have hk : k < ps.length := by omega
      have hk0 : ¬ (k : Int) < 0 := by omega
      have hk1 : ¬ ps.length ≤ k := by omega
      rw [hm, climbF, if_pos hc] at hu
      have hgk : ps.getD (k : Int).toNat 0 = ps[k] := by simp [hk]
      rw [hgk] at hu
      have kf := hf A k H hk (by omega) hI
      simp [e0, e1, e2, e7, e8, hlt, hk0, hk1]
      refine GTK.yes (kf.mono ?_)
      rintro _ H' ⟨rfl, hI'⟩
      cases hg : go (k : Int) with
      | true =>
        rw [hg, if_pos rfl] at hu
        simp [e0, e1, e2, e7, e8, hlt, hk]
        exact ⟨n + 1, by omega, ew, by omega, A ++ [(k : Int)], by simp [hA], hI', by rw [hu, hm2]; simp⟩
      | false =>
        rw [hg] at hu
        simp at hu
        simp [e0, e1, e2, e7, e8, hlt, hk]
        rw [hu]
        exact hI'
    · rw [hm, climbF, if_neg hc, List.append_nil] at hu
      rw [hu]
      by_cases h1 : c < 0
      · simp [e0, e1, e2, e7, e8, hlt, h1]
        refine GTK.no ?_
        simp [e0, e1, e2, e7, e8, hlt, h1]
        exact hI
      · have h2 : (ps.length : Int) ≤ c := by omega
        simp [e0, e1, e2, e7, e8, hlt, h1, h2]
        refine GTK.no ?_
        simp [e0, e1, e2, e7, e8, hlt, h1, h2]
        exact hI
  · have : n = ps.length := by omega
    rw [this, Nat.sub_self, climbF, List.append_nil] at hu
    rw [hu]
    simp [e0, e1, e2, e7, e8, hlt]
    exact hI
/-- a list grown from nil on, by things or lists, behind k things -/
def GrowZ (k sz : Nat) (J : List HO) (x : AV) (xs : List AV) : Prop := (xs = [] ∧ (x = .sl .nil [] ∨ x = .sl .exact [])) ∨ ∃ t, x = .sl (.tok (t + k)) xs ∧ J[t]? = some (.spare xs.length sz)
theorem T_up (ps : List Int) (i : Int) (hl : ps.length ≤ 1000000) : T Tryz.prog 123 [.sl .no (ints' ps), .int .i64 i] (.sl .no (ints' (upI ps i))) := by
  have kc := S_climb ps i 137 [.ptr 0 0] (fun _ => true) (fun A H => ∃ x J, H = .box [x] :: J ∧ GrowZ 1 1 J x (ints' A)) [.box [.sl .exact []]] ⟨_, [], rfl, .inl ⟨rfl, .inr rfl⟩⟩ hl (by
    rintro A x _ hx hA ⟨s, J, rfl, hg⟩
    refine TS.body mix Tryz.func137 (by kernel_rfl) rfl (by kernel_rfl) (by simp) ?_
    rcases hg with ⟨ge, hg⟩ | ⟨t, rfl, ht⟩
    · rw [avs_eq_nil] at ge
      subst ge
      have hex : s.ex = .sl .exact [] := by rcases hg with rfl | rfl <;> rfl
      rcases hg with rfl | rfl
      · simp
        exact ⟨_, _, ⟨rfl, rfl⟩, .inr ⟨J.length, rfl, by simp⟩⟩
      · simp
        exact ⟨_, _, ⟨rfl, rfl⟩, .inr ⟨J.length, rfl, by simp⟩⟩
    · simp [ht]
      refine ⟨⟨by omega, by omega⟩, _, _, ⟨rfl, rfl⟩, .inr ⟨t, rfl, ?_⟩⟩
      rw [List.getElem?_set_self (List.getElem?_eq_some_iff.1 ht).1]
      simp)
  rw [climb_all] at kc
  refine T.introF (TS.body mix Tryz.func123 (by kernel_rfl) rfl (by kernel_rfl) (by simp) ?_)
  simp
  refine TS.mono kc ?_
  rintro _ _ ⟨rfl, s, J, rfl, hg⟩
  have hu : upF ps ps.length i = upI ps i := rfl
  rw [hu] at hg
  generalize upI ps i = U at *
  rcases hg with ⟨ge, hg⟩ | ⟨t, rfl, ht⟩
  · rw [avs_eq_nil] at ge
    subst ge
    rcases hg with rfl | rfl <;> simp <;> exact Frz.slN (f := AV.int .i64) (l := [])
  · simp
    exact Frz.slN
/-- does the last one that was met end a way? -/
def endF (ps A : List Int) : Bool := match A.getLast? with | none => false | some x => isEnd ps x
theorem S_right1 (ps : List Int) (k : Nat) (x : Nat) (b : Bool) (H : List HO) (hx : x < ps.length) (h0 : H[0]? = some (.box [.sl .no (ints' ps)])) (hk : H[k]? = some (.box [.bool b])) :
    TS Tryz.prog 156 [.int .i64 (x : Int), .ptr 0 0, .ptr k 0] H (pt (.bool (!isEnd ps x)) (H.set k (.box [.bool (isEnd ps x)]))) := by
  have hkl := (List.getElem?_eq_some_iff.1 hk).1
  refine TS.body mix Tryz.func156 (by kernel_rfl) rfl (by kernel_rfl) (by simp) ?_
  have hk2 : H[k] = .box [.bool b] := by rw [List.getElem?_eq_getElem hkl] at hk; exact Option.some.inj hk
  simp [h0, hx, hkl, hk2]
  unfold isEnd
  simp [hx]
set_option maxRecDepth 4000 in
theorem T_jright (ps : List Int) (hl : ps.length ≤ 1000000) : T Tryz.prog 134 [.sl .no (ints' ps)] (.bool (treeI ps)) := by
  refine T.intro (TS.body mix Tryz.func134 (by kernel_rfl) rfl (by kernel_rfl) (by simp) ?_)
  simp
  refine vc_loop (fun i : Nat => ps.length - i) (fun i e H => ∃ J, e 1 = .ptr 0 0 ∧ e 7 = .sl .no (ints' ps) ∧ e 8 = .int .i64 ps.length ∧ e 3 = .int .i64 ((ps.take i).count (-1) : Nat) ∧ e 9 = .int .i64 i ∧ i ≤ ps.length ∧ (∀ j, j < i → endOk ps j = true) ∧ H = .box [.sl .no (ints' ps)] :: J) 0 ?_ ?_
  · refine ⟨[], ?_⟩
    simp
  rintro i e H ⟨J, e1, e7, e8, e3, e9, hi, hno, rfl⟩
  by_cases hlt : i < ps.length
  · have ew := wrap_next hlt (by omega)
    have hcn := count_next hlt (-1)
    have hcl : (ps.take i).count (-1) ≤ i := Nat.le_trans List.count_le_length (by simp; omega)
    have ew2 : IntKind.i64.wrap (((ps.take i).count (-1) : Nat) + 1 : Int) = (((ps.take i).count (-1) + 1 : Nat) : Int) := by rw [wrap_i64 (by omega) (by omega)]; omega
    have hne := upI_ne hlt
    have kc := S_climb ps i 156 [.ptr 0 0, .ptr (J.length + 1) 0] (fun x => !isEnd ps x) (fun A H => H = .box [.sl .no (ints' ps)] :: (J ++ [.box [.bool (endF ps A)]])) (.box [.sl .no (ints' ps)] :: (J ++ [.box [.bool false]])) rfl hl (by
      rintro A x _ hx hA rfl
      refine TS.pt (S_right1 ps (J.length + 1) x (endF ps A) _ hx rfl (by simp)) ⟨rfl, ?_⟩
      simp [endF])
    rw [climb_end] at kc
    have hu : upF ps ps.length i = upI ps i := rfl
    rw [hu] at kc
    have hq : endF ps (upI ps i) = endOk ps i := by
      unfold endF endOk
      rw [List.getLast?_eq_some_getLast hne]
      simp [isEnd]
    rw [hq] at kc
    have fin : ∀ j, endOk ps i = true → j < i + 1 → endOk ps j = true := by
      intro j h hj
      rcases Nat.lt_or_ge j i with h2 | h2
      · exact hno j h2
      · have : j = i := by omega
        subst this; exact h
    by_cases c2 : ps[i] = -1
    · rw [if_pos c2] at hcn
      simp [e1, e7, e8, e3, e9, hlt, c2]
      refine TS.mono kc ?_
      rintro _ _ ⟨rfl, rfl⟩
      cases hb : endOk ps i with
      | true =>
        simp [e1, e7, e8, e3, e9, hlt, c2]
        exact ⟨i + 1, by omega, by rw [hcn]; exact ew2, ew, by omega, fun j hj => fin j hb hj⟩
      | false =>
        have : treeI ps = false := by
          unfold treeI
          rw [all_range_no hlt hb, Bool.false_and]
        rw [this]
        simp [e1, e7, e8, e3, e9, hlt, c2]
    · rw [if_neg c2] at hcn
      simp [e1, e7, e8, e3, e9, hlt, c2]
      refine TS.mono kc ?_
      rintro _ _ ⟨rfl, rfl⟩
      cases hb : endOk ps i with
      | true =>
        simp [e1, e7, e8, e3, e9, hlt, c2]
        exact ⟨i + 1, by omega, by rw [hcn]; rfl, ew, by omega, fun j hj => fin j hb hj⟩
      | false =>
        have : treeI ps = false := by
          unfold treeI
          rw [all_range_no hlt hb, Bool.false_and]
        rw [this]
        simp [e1, e7, e8, e3, e9, hlt, c2]
  · have : i = ps.length := by omega
    subst this
    rw [List.take_length] at e3
    have : treeI ps = (decide (ps.length = 0) || decide (ps.count (-1) = 1)) := by
      unfold treeI
      rw [all_range hno, Bool.true_and]
    rw [this]
    by_cases c0 : ps.length = 0
    · have := List.eq_nil_of_length_eq_zero c0
      subst this
      simp at e7 e8 e3 e9
      simp [e1, e7, e8, e3, e9]
    · have c1 : ¬ (ps.length : Int) = 0 := by omega
      have c2 : ¬ ps = [] := fun h => c0 (by rw [h]; rfl)
      simp [e1, e7, e8, e3, e9, c1, c2]
      try omega
def heldI (ps : List Int) : List Int := if treeI ps = true then ps else []
theorem heldI_len (ps : List Int) : (heldI ps).length ≤ ps.length := by unfold heldI; split <;> simp
theorem T_held (ps : List Int) (hl : ps.length ≤ 1000000) : T Tryz.prog 120 [.sl .no (ints' ps)] (.sl .no (ints' (heldI ps))) := by
  have k := T_jright ps hl
  refine T.intro (TS.body mix Tryz.func120 (by kernel_rfl) rfl (by kernel_rfl) (by simp) ?_)
  simp
  refine TS.callW k (Dws.self (by simp)) ?_
  unfold heldI
  cases treeI ps <;> simp
theorem T_jrheld (ps : List Int) (hl : ps.length ≤ 1000000) : T Tryz.prog 79 [.sl .no (ints' ps)] (.sl .no (ints' (heldI ps))) := by
  have k := T_rtree ps hl
  refine T.intro (TS.body mix Tryz.func79 (by kernel_rfl) rfl (by kernel_rfl) (by simp) ?_)
  simp
  refine TS.callW k (Dws.self (by simp)) ?_
  unfold heldI
  cases treeI ps <;> simp
end Go.Proofs.YtjplcdeaedflpaaGreatDoor.PL
