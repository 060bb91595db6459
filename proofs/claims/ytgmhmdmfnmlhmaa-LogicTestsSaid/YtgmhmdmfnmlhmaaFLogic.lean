/- What the functions of truths tell. -/
import Derived.Test.YtgmhmdmfnmlhmaaFVal
namespace Go.Proofs.Ytgmhmdmfnmlhmaa.PL
open Go.Proofs
set_option linter.unusedVariables false
set_option linter.unusedSimpArgs false
def tru (a : Int) : Int := if 0 ≤ a ∧ a ≤ 2 then a else 2
def notT (a : Int) : Int := if a = 0 then 1 else if a = 1 then 0 else 2

theorem T_lright (a : Int) : T Try.prog 46 [.int .i64 a] (.bool (decide (0 ≤ a ∧ a ≤ 2))) := by
  refine T.intro (TS.body mix Try.func46 (by kernel_rfl) rfl (by kernel_rfl) (by simp) ?_)
  simp [condK_iff]
theorem T_truth (a : Int) : T Try.prog 87 [.int .i64 a] (.int .i64 (tru a)) := by
  refine T.intro (TS.body mix Try.func87 (by kernel_rfl) rfl (by kernel_rfl) (by simp) ?_)
  simp
  (first | refine TS.call' (T_lright a) (by simp) ?_ | refine TDK.call' (T_lright a) (by simp) ?_ | refine GTK.call (fun _ => ⟨T_lright a, by simp⟩) ?_ | refine TS.call (T_lright a) (by simp) ?_ | refine TDK.call (T_lright a) (by simp) ?_); simp
  simp [condK_iff, tru]
  omega
theorem T_lof (b : Bool) : T Try.prog 44 [.bool b] (.int .i64 (if b then 1 else 0)) := by
  refine T.intro (TS.body mix Try.func44 (by kernel_rfl) rfl (by kernel_rfl) (by simp) ?_)
  cases b <;> simp
theorem T_lis (a : Int) : T Try.prog 45 [.int .i64 a] (.bool (decide (a = 1))) := by
  refine T.intro (TS.body mix Try.func45 (by kernel_rfl) rfl (by kernel_rfl) (by simp) ?_)
  simp
theorem T_lnot (a : Int) : T Try.prog 42 [.int .i64 a] (.int .i64 (notT a)) := by
  refine T.intro (TS.body mix Try.func42 (by kernel_rfl) rfl (by kernel_rfl) (by simp) ?_)
  simp
  (first | refine TS.call' (T_truth a) (by simp) ?_ | refine TDK.call' (T_truth a) (by simp) ?_ | refine GTK.call (fun _ => ⟨T_truth a, by simp⟩) ?_ | refine TS.call (T_truth a) (by simp) ?_ | refine TDK.call (T_truth a) (by simp) ?_); simp
  simp [condK_iff]
  unfold tru notT
  split <;> omega
def idxI : List Int → Int → Int → Int
  | [], _, _ => -1
  | n :: l, v, i => if n = v then i else idxI l v (i + 1)
theorem idxI_mem : ∀ (l : List Int) (v i : Int), 0 ≤ i → (0 ≤ idxI l v i ↔ v ∈ l)
  | [], v, i, h => by simp [idxI]
  | n :: l, v, i, h => by
    unfold idxI
    by_cases e : n = v
    · simp [e, h]
    · rw [if_neg e, idxI_mem l v (i + 1) (by omega), List.mem_cons]
      exact ⟨.inr, fun x => x.resolve_left (fun y => e y.symm)⟩
theorem T_idx (l : List Int) (v : Int) (hl : l.length < 4611686018427387904) : T Try.prog 117 [.sl .no (ints' l), .int .i64 v] (.int .i64 (idxI l v 0)) := by
  refine T.intro (TS.body mix Try.func117 (by kernel_rfl) rfl (by kernel_rfl) (by simp) ?_)
  simp
  refine vc_loop (fun i : Nat => l.length - i) (fun i e H => e 1 = .int .i64 v ∧ e 6 = .sl .no (ints' l) ∧ e 0 = .sl .no (ints' l) ∧ e 7 = .int .i64 l.length ∧ e 8 = .int .i64 i ∧ i ≤ l.length ∧ idxI l v 0 = idxI (l.drop i) v i) 0 ?_ ?_
  · simp
  rintro i e H ⟨h1, h6, h0, h7, h8, hi, hz⟩
  by_cases h : i < l.length
  · have ed : l.drop i = _ := List.drop_eq_getElem_cons h
    simp [h1, h6, h0, h7, h8, h]
    refine condK_of (fun h' => ?_) (fun h' => ?_)
    · simp at h'
      simp
      rw [hz, ed, idxI, if_pos h'.symm]
    · simp at h'
      simp [h1, h6, h0, h7, h8]
      refine ⟨i + 1, by omega, by rw [wrap_i64 (by omega) (by omega)]; simp, by omega, ?_⟩
      rw [hz, ed, idxI, if_neg (fun x => h' x.symm)]
      rfl
  · have : i = l.length := by omega
    subst this
    simp [h7, h8]
    rw [hz]; simp [idxI]
theorem T_contains (l : List Int) (v : Int) (hl : l.length < 4611686018427387904) : T Try.prog 111 [.sl .no (ints' l), .int .i64 v] (.bool (decide (v ∈ l))) := by
  refine T.intro (TS.body mix Try.func111 (by kernel_rfl) rfl (by kernel_rfl) (by simp) ?_)
  simp
  (first | refine TS.call' (T_idx l v hl) (by simp) ?_ | refine TDK.call' (T_idx l v hl) (by simp) ?_ | refine GTK.call (fun _ => ⟨T_idx l v hl, by simp⟩) ?_ | refine TS.call (T_idx l v hl) (by simp) ?_ | refine TDK.call (T_idx l v hl) (by simp) ?_); simp
  rw [idxI_mem l v 0 (by omega)]
theorem T_any1 (a : Int) : T Try.prog 110 [.int .i64 a] (.bool (decide (tru a = 2))) := by
  refine T.intro (TS.body mix Try.func110 (by kernel_rfl) rfl (by kernel_rfl) (by simp) ?_)
  simp
  (first | refine TS.call' (T_truth a) (by simp) ?_ | refine TDK.call' (T_truth a) (by simp) ?_ | refine GTK.call (fun _ => ⟨T_truth a, by simp⟩) ?_ | refine TS.call (T_truth a) (by simp) ?_ | refine TDK.call (T_truth a) (by simp) ?_); simp
theorem T_idxf (l : List Int) (hl : l.length < 4611686018427387904) : T Try.prog 118 [.sl .no (ints' l), .fn (.func 110) [] []] (.int .i64 (idxI (l.map tru) 2 0)) := by
  refine T.intro (TS.body mix Try.func118 (by kernel_rfl) rfl (by kernel_rfl) (by simp) ?_)
  simp
  refine vc_loop (fun i : Nat => l.length - i) (fun i e H => e 1 = .fn (.func 110) [] [] ∧ e 6 = .sl .no (ints' l) ∧ e 0 = .sl .no (ints' l) ∧ e 7 = .int .i64 l.length ∧ e 8 = .int .i64 i ∧ i ≤ l.length ∧ idxI (l.map tru) 2 0 = idxI ((l.drop i).map tru) 2 i) 0 ?_ ?_
  · simp
  rintro i e H ⟨h1, h6, h0, h7, h8, hi, hz⟩
  by_cases h : i < l.length
  · have ed : l.drop i = _ := List.drop_eq_getElem_cons h
    simp [h1, h6, h0, h7, h8, h]
    refine TS.call' (T_any1 l[i]) (by simp) ?_
    simp [h1, h6, h0, h7, h8, h]
    refine condK_of (fun h' => ?_) (fun h' => ?_)
    · simp at h'
      simp [h8]
      rw [hz, ed, List.map_cons, idxI, if_pos h']
    · simp at h'
      simp [h1, h6, h0, h7, h8]
      refine ⟨i + 1, by omega, by rw [wrap_i64 (by omega) (by omega)]; simp, by omega, ?_⟩
      rw [hz, ed, List.map_cons, idxI, if_neg h', ← List.map_drop]
      rfl
  · have : i = l.length := by omega
    subst this
    simp [h7, h8]
    rw [hz]; simp [idxI]
theorem T_containsf (l : List Int) (hl : l.length < 4611686018427387904) : T Try.prog 112 [.sl .no (ints' l), .fn (.func 110) [] []] (.bool (decide (2 ∈ l.map tru))) := by
  refine T.intro (TS.body mix Try.func112 (by kernel_rfl) rfl (by kernel_rfl) (by simp) ?_)
  simp
  (first | refine TS.call' (T_idxf l hl) (by simp) ?_ | refine TDK.call' (T_idxf l hl) (by simp) ?_ | refine GTK.call (fun _ => ⟨T_idxf l hl, by simp⟩) ?_ | refine TS.call (T_idxf l hl) (by simp) ?_ | refine TDK.call (T_idxf l hl) (by simp) ?_); simp
  rw [idxI_mem _ _ 0 (by omega)]
  simp
theorem T_lany (l : List Int) (r o : Int) (hl : l.length < 4611686018427387904) : T Try.prog 84 [.sl .no (ints' l), .int .i64 r, .int .i64 o] (.int .i64 (if r ∈ l then r else if 2 ∈ l.map tru then 2 else o)) := by
  refine T.intro (TS.body mix Try.func84 (by kernel_rfl) rfl (by kernel_rfl) (by simp) ?_)
  simp
  (first | refine TS.call' (T_contains l r hl) (by simp) ?_ | refine TDK.call' (T_contains l r hl) (by simp) ?_ | refine GTK.call (fun _ => ⟨T_contains l r hl, by simp⟩) ?_ | refine TS.call (T_contains l r hl) (by simp) ?_ | refine TDK.call (T_contains l r hl) (by simp) ?_); simp
  refine condK_of (fun h => ?_) (fun h => ?_)
  · simp at h; simp [h]
  simp at h
  simp
  (first | refine TS.call' (T_containsf l hl) (by simp) ?_ | refine TDK.call' (T_containsf l hl) (by simp) ?_ | refine GTK.call (fun _ => ⟨T_containsf l hl, by simp⟩) ?_ | refine TS.call (T_containsf l hl) (by simp) ?_ | refine TDK.call (T_containsf l hl) (by simp) ?_); simp
  refine condK_of (fun h2 => ?_) (fun h2 => ?_)
  · simp at h2
    simp [h, h2]
  · simp at h2
    simp [h]
    exact fun x hx e => absurd e (h2 x hx)
def andT (l : List Int) : Int := if 0 ∈ l then 0 else if 2 ∈ l.map tru then 2 else 1
def orT (l : List Int) : Int := if 1 ∈ l then 1 else if 2 ∈ l.map tru then 2 else 0
theorem T_land (l : List Int) (hl : l.length < 4611686018427387904) : T Try.prog 38 [.sl .no (ints' l)] (.int .i64 (andT l)) := by
  refine T.intro (TS.body mix Try.func38 (by kernel_rfl) rfl (by kernel_rfl) (by simp) ?_)
  simp
  (first | refine TS.call' (T_lany l 0 1 hl) (by simp) ?_ | refine TDK.call' (T_lany l 0 1 hl) (by simp) ?_ | refine GTK.call (fun _ => ⟨T_lany l 0 1 hl, by simp⟩) ?_ | refine TS.call (T_lany l 0 1 hl) (by simp) ?_ | refine TDK.call (T_lany l 0 1 hl) (by simp) ?_); simp
  simp [andT]
theorem T_lor (l : List Int) (hl : l.length < 4611686018427387904) : T Try.prog 40 [.sl .no (ints' l)] (.int .i64 (orT l)) := by
  refine T.intro (TS.body mix Try.func40 (by kernel_rfl) rfl (by kernel_rfl) (by simp) ?_)
  simp
  (first | refine TS.call' (T_lany l 1 0 hl) (by simp) ?_ | refine TDK.call' (T_lany l 1 0 hl) (by simp) ?_ | refine GTK.call (fun _ => ⟨T_lany l 1 0 hl, by simp⟩) ?_ | refine TS.call (T_lany l 1 0 hl) (by simp) ?_ | refine TDK.call (T_lany l 1 0 hl) (by simp) ?_); simp
  simp [orT]
def heldT (a : Int) : Int := if a = 0 then 0 else if a = 1 then 1 else 2
theorem heldT_cases (a : Int) : heldT a = 0 ∨ heldT a = 1 ∨ heldT a = 2 := by unfold heldT; split <;> (try split) <;> simp
def bothT (a b : Int) : Int := if heldT a = 0 ∨ heldT b = 0 then 0 else if heldT a = 1 ∧ heldT b = 1 then 1 else 2
def eitherT (a b : Int) : Int := if heldT a = 1 ∨ heldT b = 1 then 1 else if heldT a = 0 ∧ heldT b = 0 then 0 else 2
theorem T_rheld (a : Int) : T Try.prog 88 [.int .i64 a] (.int .i64 (heldT a)) := by
  refine T.intro (TS.body mix Try.func88 (by kernel_rfl) rfl (by kernel_rfl) (by simp) ?_)
  simp [condK_iff, heldT]
  omega
theorem T_rnot (a : Int) : T Try.prog 43 [.int .i64 a] (.int .i64 (notT a)) := by
  refine T.intro (TS.body mix Try.func43 (by kernel_rfl) rfl (by kernel_rfl) (by simp) ?_)
  have e : notT a = if heldT a = 0 then 1 else if heldT a = 1 then 0 else 2 := by unfold notT heldT; grind
  rw [e]
  simp
  (first | refine TS.call' (T_rheld a) (by simp) ?_ | refine TDK.call' (T_rheld a) (by simp) ?_ | refine GTK.call (fun _ => ⟨T_rheld a, by simp⟩) ?_ | refine TS.call (T_rheld a) (by simp) ?_ | refine TDK.call (T_rheld a) (by simp) ?_); simp
  rcases heldT_cases a with h | h | h <;> simp [h]
theorem T_rboth (a b : Int) : T Try.prog 85 [.int .i64 a, .int .i64 b] (.int .i64 (bothT a b)) := by
  refine T.intro (TS.body mix Try.func85 (by kernel_rfl) rfl (by kernel_rfl) (by simp) ?_)
  unfold bothT
  simp
  (first | refine TS.call' (T_rheld a) (by simp) ?_ | refine TDK.call' (T_rheld a) (by simp) ?_ | refine GTK.call (fun _ => ⟨T_rheld a, by simp⟩) ?_ | refine TS.call (T_rheld a) (by simp) ?_ | refine TDK.call (T_rheld a) (by simp) ?_); simp
  rcases heldT_cases a with h | h | h <;> simp [h]
  all_goals ((first | refine TS.call' (T_rheld b) (by simp) ?_ | refine TDK.call' (T_rheld b) (by simp) ?_ | refine GTK.call (fun _ => ⟨T_rheld b, by simp⟩) ?_ | refine TS.call (T_rheld b) (by simp) ?_ | refine TDK.call (T_rheld b) (by simp) ?_); simp)
  all_goals (rcases heldT_cases b with h' | h' | h' <;> simp [h'])
theorem T_reither (a b : Int) : T Try.prog 86 [.int .i64 a, .int .i64 b] (.int .i64 (eitherT a b)) := by
  refine T.intro (TS.body mix Try.func86 (by kernel_rfl) rfl (by kernel_rfl) (by simp) ?_)
  unfold eitherT
  simp
  (first | refine TS.call' (T_rheld a) (by simp) ?_ | refine TDK.call' (T_rheld a) (by simp) ?_ | refine GTK.call (fun _ => ⟨T_rheld a, by simp⟩) ?_ | refine TS.call (T_rheld a) (by simp) ?_ | refine TDK.call (T_rheld a) (by simp) ?_); simp
  rcases heldT_cases a with h | h | h <;> simp [h]
  all_goals ((first | refine TS.call' (T_rheld b) (by simp) ?_ | refine TDK.call' (T_rheld b) (by simp) ?_ | refine GTK.call (fun _ => ⟨T_rheld b, by simp⟩) ?_ | refine TS.call (T_rheld b) (by simp) ?_ | refine TDK.call (T_rheld b) (by simp) ?_); simp)
  all_goals (rcases heldT_cases b with h' | h' | h' <;> simp [h'])
theorem T_rand (l : List Int) (hl : l.length < 4611686018427387904) : T Try.prog 39 [.sl .no (ints' l)] (.int .i64 (l.foldl bothT 1)) := by
  refine T.intro (TS.body mix Try.func39 (by kernel_rfl) rfl (by kernel_rfl) (by simp) ?_)
  simp
  refine vc_loop (fun i : Nat => l.length - i) (fun i e H => ∃ x : Int, e 0 = .sl .no (ints' l) ∧ e 3 = .int .i64 x ∧ e 4 = .int .i64 i ∧ i ≤ l.length ∧ l.foldl bothT 1 = (l.drop i).foldl bothT x) 0 ?_ ?_
  · exact ⟨1, by simp⟩
  rintro i e H ⟨x, h0, h3, h4, hi, hz⟩
  by_cases h : i < l.length
  · have ed : l.drop i = _ := List.drop_eq_getElem_cons h
    simp [h0, h3, h4, h]
    (first | refine TS.call' (T_rboth x l[i]) (by simp) ?_ | refine TDK.call' (T_rboth x l[i]) (by simp) ?_ | refine GTK.call (fun _ => ⟨T_rboth x l[i], by simp⟩) ?_ | refine TS.call (T_rboth x l[i]) (by simp) ?_ | refine TDK.call (T_rboth x l[i]) (by simp) ?_); simp
    simp [h0, h3, h4, h]
    refine ⟨i + 1, by omega, by rw [wrap_i64 (by omega) (by omega)]; simp, by omega, ?_⟩
    rw [hz, ed, List.foldl_cons]
  · have : i = l.length := by omega
    subst this
    simp [h0, h3, h4]
    rw [hz]; simp
theorem T_ror (l : List Int) (hl : l.length < 4611686018427387904) : T Try.prog 41 [.sl .no (ints' l)] (.int .i64 (l.foldl eitherT 0)) := by
  refine T.intro (TS.body mix Try.func41 (by kernel_rfl) rfl (by kernel_rfl) (by simp) ?_)
  simp
  refine vc_loop (fun i : Nat => l.length - i) (fun i e H => ∃ x : Int, e 0 = .sl .no (ints' l) ∧ e 3 = .int .i64 x ∧ e 4 = .int .i64 i ∧ i ≤ l.length ∧ l.foldl eitherT 0 = (l.drop i).foldl eitherT x) 0 ?_ ?_
  · exact ⟨0, by simp⟩
  rintro i e H ⟨x, h0, h3, h4, hi, hz⟩
  by_cases h : i < l.length
  · have ed : l.drop i = _ := List.drop_eq_getElem_cons h
    simp [h0, h3, h4, h]
    (first | refine TS.call' (T_reither x l[i]) (by simp) ?_ | refine TDK.call' (T_reither x l[i]) (by simp) ?_ | refine GTK.call (fun _ => ⟨T_reither x l[i], by simp⟩) ?_ | refine TS.call (T_reither x l[i]) (by simp) ?_ | refine TDK.call (T_reither x l[i]) (by simp) ?_); simp
    simp [h0, h3, h4, h]
    refine ⟨i + 1, by omega, by rw [wrap_i64 (by omega) (by omega)]; simp, by omega, ?_⟩
    rw [hz, ed, List.foldl_cons]
  · have : i = l.length := by omega
    subst this
    simp [h0, h3, h4]
    rw [hz]; simp
theorem T_live02 : T Try.prog 37 [] (.bool true) := by
  refine T.intro (TS.body mix Try.func37 (by kernel_rfl) rfl (by kernel_rfl) (by simp) ?_)
  simp
  have e1 : andT [1, 2] = 2 := by decide
  have e2 : andT [0, 2] = 0 := by decide
  have e3 : andT [] = 1 := by decide
  have e4 : orT [] = 0 := by decide
  refine TS.call (T_land [1, 2] (by show 2 < _; omega)) (by simp) ?_
  simp [e1]
  refine GTK.call (fun _ => ⟨T_land [0, 2] (by show 2 < _; omega), by simp⟩) ?_
  simp [e1, e2]
  refine GTK.call (fun _ => ⟨T_lor [] (by show 0 < _; omega), by simp⟩) ?_
  simp [e1, e2, e4]
  refine GTK.call (fun _ => ⟨T_land [] (by show 0 < _; omega), by simp⟩) ?_
  simp [e1, e2, e3, e4]
theorem and_fold (l : List Int) : l.foldl bothT 1 = andT l := by
  have key : ∀ (l : List Int) (x : Int), (x = 0 ∨ x = 1 ∨ x = 2) → l.foldl bothT x = if x = 0 ∨ 0 ∈ l then 0 else if x = 2 ∨ 2 ∈ l.map tru then 2 else 1 := by
    intro l
    induction l with
    | nil => intro x hx; rcases hx with h | h | h <;> simp [h]
    | cons n l ih =>
      intro x hx
      have hb : bothT x n = 0 ∨ bothT x n = 1 ∨ bothT x n = 2 := by unfold bothT; grind
      rw [List.foldl_cons, ih _ hb, List.map_cons]
      have e0 : bothT x n = 0 ↔ x = 0 ∨ n = 0 := by unfold bothT heldT; grind
      have e2 : bothT x n = 2 ↔ ¬ (x = 0 ∨ n = 0) ∧ (x = 2 ∨ tru n = 2) := by unfold bothT heldT tru; grind
      simp only [e0, e2, List.mem_cons]
      grind
  rw [key l 1 (by simp)]
  unfold andT
  simp
theorem or_fold (l : List Int) : l.foldl eitherT 0 = orT l := by
  have key : ∀ (l : List Int) (x : Int), (x = 0 ∨ x = 1 ∨ x = 2) → l.foldl eitherT x = if x = 1 ∨ 1 ∈ l then 1 else if x = 2 ∨ 2 ∈ l.map tru then 2 else 0 := by
    intro l
    induction l with
    | nil => intro x hx; rcases hx with h | h | h <;> simp [h]
    | cons n l ih =>
      intro x hx
      have hb : eitherT x n = 0 ∨ eitherT x n = 1 ∨ eitherT x n = 2 := by unfold eitherT; grind
      rw [List.foldl_cons, ih _ hb, List.map_cons]
      have e0 : eitherT x n = 1 ↔ x = 1 ∨ n = 1 := by unfold eitherT heldT; grind
      have e2 : eitherT x n = 2 ↔ ¬ (x = 1 ∨ n = 1) ∧ (x = 2 ∨ tru n = 2) := by unfold eitherT heldT tru; grind
      simp only [e0, e2, List.mem_cons]
      grind
  rw [key l 0 (by simp)]
  unfold orT
  simp
theorem T_rand' (l : List Int) (hl : l.length < 4611686018427387904) : T Try.prog 39 [.sl .no (ints' l)] (.int .i64 (andT l)) := and_fold l ▸ T_rand l hl
theorem T_ror' (l : List Int) (hl : l.length < 4611686018427387904) : T Try.prog 41 [.sl .no (ints' l)] (.int .i64 (orT l)) := or_fold l ▸ T_ror l hl
theorem T_LogicTables (l : List Int) (a : Int) (b : Bool) : T Try.prog 7 [.sl .no (ints' l), .int .i64 a, .bool b] (.bool true) := by
  refine T.intro (TS.body mix Try.func7 (by kernel_rfl) rfl (by kernel_rfl) (by simp) ?_)
  simp
  refine condK_of (fun h => ?_) (fun h => ?_)
  · simp
    (first | refine TS.call' (T_live02) (by simp) ?_ | refine TDK.call' (T_live02) (by simp) ?_ | refine GTK.call (fun _ => ⟨T_live02, by simp⟩) ?_ | refine TS.call (T_live02) (by simp) ?_ | refine TDK.call (T_live02) (by simp) ?_); simp
  simp at h
  have hl : l.length < 4611686018427387904 := by omega
  cases b <;> simp
  all_goals ((first | refine TS.call' (T_land l hl) (by simp) ?_ | refine TDK.call' (T_land l hl) (by simp) ?_ | refine GTK.call (fun _ => ⟨T_land l hl, by simp⟩) ?_ | refine TS.call (T_land l hl) (by simp) ?_ | refine TDK.call (T_land l hl) (by simp) ?_); simp)
  all_goals ((first | refine TS.call' (T_rand' l hl) (by simp) ?_ | refine TDK.call' (T_rand' l hl) (by simp) ?_ | refine GTK.call (fun _ => ⟨T_rand' l hl, by simp⟩) ?_ | refine TS.call (T_rand' l hl) (by simp) ?_ | refine TDK.call (T_rand' l hl) (by simp) ?_); simp)
  all_goals ((first | refine TS.call' (T_lor l hl) (by simp) ?_ | refine TDK.call' (T_lor l hl) (by simp) ?_ | refine GTK.call (fun _ => ⟨T_lor l hl, by simp⟩) ?_ | refine TS.call (T_lor l hl) (by simp) ?_ | refine TDK.call (T_lor l hl) (by simp) ?_); simp)
  all_goals ((first | refine TS.call' (T_ror' l hl) (by simp) ?_ | refine TDK.call' (T_ror' l hl) (by simp) ?_ | refine GTK.call (fun _ => ⟨T_ror' l hl, by simp⟩) ?_ | refine TS.call (T_ror' l hl) (by simp) ?_ | refine TDK.call (T_ror' l hl) (by simp) ?_); simp)
  all_goals ((first | refine TS.call' (T_lnot a) (by simp) ?_ | refine TDK.call' (T_lnot a) (by simp) ?_ | refine GTK.call (fun _ => ⟨T_lnot a, by simp⟩) ?_ | refine TS.call (T_lnot a) (by simp) ?_ | refine TDK.call (T_lnot a) (by simp) ?_); simp)
  all_goals ((first | refine TS.call' (T_rnot a) (by simp) ?_ | refine TDK.call' (T_rnot a) (by simp) ?_ | refine GTK.call (fun _ => ⟨T_rnot a, by simp⟩) ?_ | refine TS.call (T_rnot a) (by simp) ?_ | refine TDK.call (T_rnot a) (by simp) ?_); simp)
  · (first | refine TS.call' (T_lof false) (by simp) ?_ | refine TDK.call' (T_lof false) (by simp) ?_ | refine GTK.call (fun _ => ⟨T_lof false, by simp⟩) ?_ | refine TS.call (T_lof false) (by simp) ?_ | refine TDK.call (T_lof false) (by simp) ?_); simp
    (first | refine TS.call' (T_lis a) (by simp) ?_ | refine TDK.call' (T_lis a) (by simp) ?_ | refine GTK.call (fun _ => ⟨T_lis a, by simp⟩) ?_ | refine TS.call (T_lis a) (by simp) ?_ | refine TDK.call (T_lis a) (by simp) ?_); simp
    (first | refine TS.call' (T_lright a) (by simp) ?_ | refine TDK.call' (T_lright a) (by simp) ?_ | refine GTK.call (fun _ => ⟨T_lright a, by simp⟩) ?_ | refine TS.call (T_lright a) (by simp) ?_ | refine TDK.call (T_lright a) (by simp) ?_); simp
    (first | refine TS.call' (T_live02) (by simp) ?_ | refine TDK.call' (T_live02) (by simp) ?_ | refine GTK.call (fun _ => ⟨T_live02, by simp⟩) ?_ | refine TS.call (T_live02) (by simp) ?_ | refine TDK.call (T_live02) (by simp) ?_); simp
  · (first | refine TS.call' (T_lof true) (by simp) ?_ | refine TDK.call' (T_lof true) (by simp) ?_ | refine GTK.call (fun _ => ⟨T_lof true, by simp⟩) ?_ | refine TS.call (T_lof true) (by simp) ?_ | refine TDK.call (T_lof true) (by simp) ?_); simp
    (first | refine TS.call' (T_lis a) (by simp) ?_ | refine TDK.call' (T_lis a) (by simp) ?_ | refine GTK.call (fun _ => ⟨T_lis a, by simp⟩) ?_ | refine TS.call (T_lis a) (by simp) ?_ | refine TDK.call (T_lis a) (by simp) ?_); simp
    (first | refine TS.call' (T_lright a) (by simp) ?_ | refine TDK.call' (T_lright a) (by simp) ?_ | refine GTK.call (fun _ => ⟨T_lright a, by simp⟩) ?_ | refine TS.call (T_lright a) (by simp) ?_ | refine TDK.call (T_lright a) (by simp) ?_); simp
    (first | refine TS.call' (T_live02) (by simp) ?_ | refine TDK.call' (T_live02) (by simp) ?_ | refine GTK.call (fun _ => ⟨T_live02, by simp⟩) ?_ | refine TS.call (T_live02) (by simp) ?_ | refine TDK.call (T_live02) (by simp) ?_); simp
theorem S_LogicTables {xs : List AV} (h : ShA Try.prog [37, 3, 4] xs) : T Try.prog 7 xs (.bool true) := by
  obtain ⟨y, r, rfl, h1, h⟩ := h.cons_of ag_37
  obtain ⟨z, r, rfl, h2, h⟩ := h.cons_of ag_3
  obtain ⟨u, r, rfl, h3, h⟩ := h.cons_of ag_4
  obtain rfl := h.nil_of
  obtain ⟨ys, rfl, hy, _⟩ := h1.sl_of un_37 ag_3
  obtain ⟨l, e, _, _⟩ := list_in (f := fun n : Int => AV.int .i64 n) (g := mkAV false) (Q := fun _ => True) (fun y hy' => by
    obtain ⟨n, rfl, _⟩ := (hy y hy').int_of un_3
    exact ⟨n, rfl, trivial⟩)
  obtain ⟨n, rfl, _⟩ := h2.int_of un_3
  obtain ⟨b, rfl⟩ := h3.bool_of un_4
  rw [e]
  exact T_LogicTables l n b
end Go.Proofs.Ytgmhmdmfnmlhmaa.PL
