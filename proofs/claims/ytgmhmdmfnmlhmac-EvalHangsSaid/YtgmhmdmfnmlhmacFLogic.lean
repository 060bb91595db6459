/- What the functions of truths tell. -/
import Derived.Test.YtgmhmdmfnmlhmacFVal
namespace Go.Proofs.Ytgmhmdmfnmlhmac.PL
open Go.Proofs
set_option linter.unusedVariables false
set_option linter.unusedSimpArgs false
def tru (a : Int) : Int := if 0 ≤ a ∧ a ≤ 2 then a else 2
def notT (a : Int) : Int := if a = 0 then 1 else if a = 1 then 0 else 2

theorem T_lright (a : Int) : T Try.prog 161 [.int .i64 a] (.bool (decide (0 ≤ a ∧ a ≤ 2))) := by
  refine T.intro (TS.body mix Try.func161 (by kernel_rfl) rfl (by kernel_rfl) (by simp) ?_)
  simp [condK_iff]
theorem T_truth (a : Int) : T Try.prog 139 [.int .i64 a] (.int .i64 (tru a)) := by
  refine T.intro (TS.body mix Try.func139 (by kernel_rfl) rfl (by kernel_rfl) (by simp) ?_)
  simp
  (first | refine TS.call' (T_lright a) (by simp) ?_ | refine TDK.call' (T_lright a) (by simp) ?_ | refine GTK.call (fun _ => ⟨T_lright a, by simp⟩) ?_ | refine TS.call (T_lright a) (by simp) ?_ | refine TDK.call (T_lright a) (by simp) ?_); simp
  simp [condK_iff, tru]
  omega
theorem T_lof (b : Bool) : T Try.prog 94 [.bool b] (.int .i64 (if b then 1 else 0)) := by
  refine T.intro (TS.body mix Try.func94 (by kernel_rfl) rfl (by kernel_rfl) (by simp) ?_)
  cases b <;> simp
theorem T_lis (a : Int) : T Try.prog 98 [.int .i64 a] (.bool (decide (a = 1))) := by
  refine T.intro (TS.body mix Try.func98 (by kernel_rfl) rfl (by kernel_rfl) (by simp) ?_)
  simp
theorem T_lnot (a : Int) : T Try.prog 93 [.int .i64 a] (.int .i64 (notT a)) := by
  refine T.intro (TS.body mix Try.func93 (by kernel_rfl) rfl (by kernel_rfl) (by simp) ?_)
  simp
  (first | refine TS.call' (T_truth a) (by simp) ?_ | refine TDK.call' (T_truth a) (by simp) ?_ | refine GTK.call (fun _ => ⟨T_truth a, by simp⟩) ?_ | refine TS.call (T_truth a) (by simp) ?_ | refine TDK.call (T_truth a) (by simp) ?_); simp
  simp [condK_iff]
  unfold tru notT
  split <;> omega
def idxI : List Int → Int → Int → Int
  | [], _, _ => -1
  | n :: l, v, i => if n = v then i else idxI l v (i + 1)
theorem idxI_mem : ∀ (l : List Int) (v i : Int), 0 ≤ i → (0 ≤ idxI l v i ↔ v ∈ l)
  | [], v, i, h => by simp [idxI]
  | n :: l, v, i, h => by
    unfold idxI
    by_cases e : n = v
    · simp [e, h]
    · rw [if_neg e, idxI_mem l v (i + 1) (by omega), List.mem_cons]
      exact ⟨.inr, fun x => x.resolve_left (fun y => e y.symm)⟩
theorem T_idx (l : List Int) (v : Int) (hl : l.length < 4611686018427387904) : T Try.prog 105 [.sl .no (ints' l), .int .i64 v] (.int .i64 (idxI l v 0)) := by
  refine T.intro (TS.body mix Try.func105 (by kernel_rfl) rfl (by kernel_rfl) (by simp) ?_)
  simp
  refine vc_loop (fun i : Nat => l.length - i) (fun i e H => e 1 = .int .i64 v ∧ e 6 = .sl .no (ints' l) ∧ e 0 = .sl .no (ints' l) ∧ e 7 = .int .i64 l.length ∧ e 8 = .int .i64 i ∧ i ≤ l.length ∧ idxI l v 0 = idxI (l.drop i) v i) 0 ?_ ?_
  · simp
  rintro i e H ⟨h1, h6, h0, h7, h8, hi, hz⟩
  by_cases h : i < l.length
  · have ed : l.drop i = _ := List.drop_eq_getElem_cons h
    simp [h1, h6, h0, h7, h8, h]
    refine condK_of (fun h' => ?_) (fun h' => ?_)
    · simp at h'
      simp
      rw [hz, ed, idxI, if_pos h'.symm]
    · simp at h'
      simp [h1, h6, h0, h7, h8]
      refine ⟨i + 1, by omega, by rw [wrap_i64 (by omega) (by omega)]; simp, by omega, ?_⟩
      rw [hz, ed, idxI, if_neg (fun x => h' x.symm)]
      rfl
  · have : i = l.length := by omega
    subst this
    simp [h7, h8]
    rw [hz]; simp [idxI]
theorem T_contains (l : List Int) (v : Int) (hl : l.length < 4611686018427387904) : T Try.prog 160 [.sl .no (ints' l), .int .i64 v] (.bool (decide (v ∈ l))) := by
  refine T.intro (TS.body mix Try.func160 (by kernel_rfl) rfl (by kernel_rfl) (by simp) ?_)
  simp
  (first | refine TS.call' (T_idx l v hl) (by simp) ?_ | refine TDK.call' (T_idx l v hl) (by simp) ?_ | refine GTK.call (fun _ => ⟨T_idx l v hl, by simp⟩) ?_ | refine TS.call (T_idx l v hl) (by simp) ?_ | refine TDK.call (T_idx l v hl) (by simp) ?_); simp
  rw [idxI_mem l v 0 (by omega)]
theorem T_any1 (a : Int) : T Try.prog 159 [.int .i64 a] (.bool (decide (tru a = 2))) := by
  refine T.intro (TS.body mix Try.func159 (by kernel_rfl) rfl (by kernel_rfl) (by simp) ?_)
  simp
  (first | refine TS.call' (T_truth a) (by simp) ?_ | refine TDK.call' (T_truth a) (by simp) ?_ | refine GTK.call (fun _ => ⟨T_truth a, by simp⟩) ?_ | refine TS.call (T_truth a) (by simp) ?_ | refine TDK.call (T_truth a) (by simp) ?_); simp
theorem T_idxf (l : List Int) (hl : l.length < 4611686018427387904) : T Try.prog 166 [.sl .no (ints' l), .fn (.func 159) [] []] (.int .i64 (idxI (l.map tru) 2 0)) := by
  refine T.intro (TS.body mix Try.func166 (by kernel_rfl) rfl (by kernel_rfl) (by simp) ?_)
  simp
  refine vc_loop (fun i : Nat => l.length - i) (fun i e H => e 1 = .fn (.func 159) [] [] ∧ e 6 = .sl .no (ints' l) ∧ e 0 = .sl .no (ints' l) ∧ e 7 = .int .i64 l.length ∧ e 8 = .int .i64 i ∧ i ≤ l.length ∧ idxI (l.map tru) 2 0 = idxI ((l.drop i).map tru) 2 i) 0 ?_ ?_
  · simp
  rintro i e H ⟨h1, h6, h0, h7, h8, hi, hz⟩
  by_cases h : i < l.length
  · have ed : l.drop i = _ := List.drop_eq_getElem_cons h
    simp [h1, h6, h0, h7, h8, h]
    refine TS.call' (T_any1 l[i]) (by simp) ?_
    simp [h1, h6, h0, h7, h8, h]
    refine condK_of (fun h' => ?_) (fun h' => ?_)
    · simp at h'
      simp [h8]
      rw [hz, ed, List.map_cons, idxI, if_pos h']
    · simp at h'
      simp [h1, h6, h0, h7, h8]
      refine ⟨i + 1, by omega, by rw [wrap_i64 (by omega) (by omega)]; simp, by omega, ?_⟩
      rw [hz, ed, List.map_cons, idxI, if_neg h', ← List.map_drop]
      rfl
  · have : i = l.length := by omega
    subst this
    simp [h7, h8]
    rw [hz]; simp [idxI]
theorem T_containsf (l : List Int) (hl : l.length < 4611686018427387904) : T Try.prog 149 [.sl .no (ints' l), .fn (.func 159) [] []] (.bool (decide (2 ∈ l.map tru))) := by
  refine T.intro (TS.body mix Try.func149 (by kernel_rfl) rfl (by kernel_rfl) (by simp) ?_)
  simp
  (first | refine TS.call' (T_idxf l hl) (by simp) ?_ | refine TDK.call' (T_idxf l hl) (by simp) ?_ | refine GTK.call (fun _ => ⟨T_idxf l hl, by simp⟩) ?_ | refine TS.call (T_idxf l hl) (by simp) ?_ | refine TDK.call (T_idxf l hl) (by simp) ?_); simp
  rw [idxI_mem _ _ 0 (by omega)]
  simp
theorem T_lany (l : List Int) (r o : Int) (hl : l.length < 4611686018427387904) : T Try.prog 138 [.sl .no (ints' l), .int .i64 r, .int .i64 o] (.int .i64 (if r ∈ l then r else if 2 ∈ l.map tru then 2 else o)) := by
  refine T.intro (TS.body mix Try.func138 (by kernel_rfl) rfl (by kernel_rfl) (by simp) ?_)
  simp
  (first | refine TS.call' (T_contains l r hl) (by simp) ?_ | refine TDK.call' (T_contains l r hl) (by simp) ?_ | refine GTK.call (fun _ => ⟨T_contains l r hl, by simp⟩) ?_ | refine TS.call (T_contains l r hl) (by simp) ?_ | refine TDK.call (T_contains l r hl) (by simp) ?_); simp
  refine condK_of (fun h => ?_) (fun h => ?_)
  · simp at h; simp [h]
  simp at h
  simp
  (first | refine TS.call' (T_containsf l hl) (by simp) ?_ | refine TDK.call' (T_containsf l hl) (by simp) ?_ | refine GTK.call (fun _ => ⟨T_containsf l hl, by simp⟩) ?_ | refine TS.call (T_containsf l hl) (by simp) ?_ | refine TDK.call (T_containsf l hl) (by simp) ?_); simp
  refine condK_of (fun h2 => ?_) (fun h2 => ?_)
  · simp at h2
    simp [h, h2]
  · simp at h2
    simp [h]
    exact fun x hx e => absurd e (h2 x hx)
def andT (l : List Int) : Int := if 0 ∈ l then 0 else if 2 ∈ l.map tru then 2 else 1
def orT (l : List Int) : Int := if 1 ∈ l then 1 else if 2 ∈ l.map tru then 2 else 0
theorem T_land (l : List Int) (hl : l.length < 4611686018427387904) : T Try.prog 91 [.sl .no (ints' l)] (.int .i64 (andT l)) := by
  refine T.intro (TS.body mix Try.func91 (by kernel_rfl) rfl (by kernel_rfl) (by simp) ?_)
  simp
  (first | refine TS.call' (T_lany l 0 1 hl) (by simp) ?_ | refine TDK.call' (T_lany l 0 1 hl) (by simp) ?_ | refine GTK.call (fun _ => ⟨T_lany l 0 1 hl, by simp⟩) ?_ | refine TS.call (T_lany l 0 1 hl) (by simp) ?_ | refine TDK.call (T_lany l 0 1 hl) (by simp) ?_); simp
  simp [andT]
theorem T_lor (l : List Int) (hl : l.length < 4611686018427387904) : T Try.prog 92 [.sl .no (ints' l)] (.int .i64 (orT l)) := by
  refine T.intro (TS.body mix Try.func92 (by kernel_rfl) rfl (by kernel_rfl) (by simp) ?_)
  simp
  (first | refine TS.call' (T_lany l 1 0 hl) (by simp) ?_ | refine TDK.call' (T_lany l 1 0 hl) (by simp) ?_ | refine GTK.call (fun _ => ⟨T_lany l 1 0 hl, by simp⟩) ?_ | refine TS.call (T_lany l 1 0 hl) (by simp) ?_ | refine TDK.call (T_lany l 1 0 hl) (by simp) ?_); simp
  simp [orT]
def heldT (a : Int) : Int := if a = 0 then 0 else if a = 1 then 1 else 2
theorem heldT_cases (a : Int) : heldT a = 0 ∨ heldT a = 1 ∨ heldT a = 2 := by unfold heldT; split <;> (try split) <;> simp
def bothT (a b : Int) : Int := if heldT a = 0 ∨ heldT b = 0 then 0 else if heldT a = 1 ∧ heldT b = 1 then 1 else 2
def eitherT (a b : Int) : Int := if heldT a = 1 ∨ heldT b = 1 then 1 else if heldT a = 0 ∧ heldT b = 0 then 0 else 2
theorem T_rheld (a : Int) : T Try.prog 136 [.int .i64 a] (.int .i64 (heldT a)) := by
  refine T.intro (TS.body mix Try.func136 (by kernel_rfl) rfl (by kernel_rfl) (by simp) ?_)
  simp [condK_iff, heldT]
  omega
theorem T_rnot (a : Int) : T Try.prog 87 [.int .i64 a] (.int .i64 (notT a)) := by
  refine T.intro (TS.body mix Try.func87 (by kernel_rfl) rfl (by kernel_rfl) (by simp) ?_)
  have e : notT a = if heldT a = 0 then 1 else if heldT a = 1 then 0 else 2 := by unfold notT heldT; grind
  rw [e]
  simp
  (first | refine TS.call' (T_rheld a) (by simp) ?_ | refine TDK.call' (T_rheld a) (by simp) ?_ | refine GTK.call (fun _ => ⟨T_rheld a, by simp⟩) ?_ | refine TS.call (T_rheld a) (by simp) ?_ | refine TDK.call (T_rheld a) (by simp) ?_); simp
  rcases heldT_cases a with h | h | h <;> simp [h]
theorem T_rboth (a b : Int) : T Try.prog 85 [.int .i64 a, .int .i64 b] (.int .i64 (bothT a b)) := by
  refine T.intro (TS.body mix Try.func85 (by kernel_rfl) rfl (by kernel_rfl) (by simp) ?_)
  unfold bothT
  simp
  (first | refine TS.call' (T_rheld a) (by simp) ?_ | refine TDK.call' (T_rheld a) (by simp) ?_ | refine GTK.call (fun _ => ⟨T_rheld a, by simp⟩) ?_ | refine TS.call (T_rheld a) (by simp) ?_ | refine TDK.call (T_rheld a) (by simp) ?_); simp
  rcases heldT_cases a with h | h | h <;> simp [h]
  all_goals ((first | refine TS.call' (T_rheld b) (by simp) ?_ | refine TDK.call' (T_rheld b) (by simp) ?_ | refine GTK.call (fun _ => ⟨T_rheld b, by simp⟩) ?_ | refine TS.call (T_rheld b) (by simp) ?_ | refine TDK.call (T_rheld b) (by simp) ?_); simp)
  all_goals (rcases heldT_cases b with h' | h' | h' <;> simp [h'])
theorem T_reither (a b : Int) : T Try.prog 86 [.int .i64 a, .int .i64 b] (.int .i64 (eitherT a b)) := by
  refine T.intro (TS.body mix Try.func86 (by kernel_rfl) rfl (by kernel_rfl) (by simp) ?_)
  unfold eitherT
  simp
  (first | refine TS.call' (T_rheld a) (by simp) ?_ | refine TDK.call' (T_rheld a) (by simp) ?_ | refine GTK.call (fun _ => ⟨T_rheld a, by simp⟩) ?_ | refine TS.call (T_rheld a) (by simp) ?_ | refine TDK.call (T_rheld a) (by simp) ?_); simp
  rcases heldT_cases a with h | h | h <;> simp [h]
  all_goals ((first | refine TS.call' (T_rheld b) (by simp) ?_ | refine TDK.call' (T_rheld b) (by simp) ?_ | refine GTK.call (fun _ => ⟨T_rheld b, by simp⟩) ?_ | refine TS.call (T_rheld b) (by simp) ?_ | refine TDK.call (T_rheld b) (by simp) ?_); simp)
  all_goals (rcases heldT_cases b with h' | h' | h' <;> simp [h'])
theorem and_fold (l : List Int) : l.foldl bothT 1 = andT l := by
  have key : ∀ (l : List Int) (x : Int), (x = 0 ∨ x = 1 ∨ x = 2) → l.foldl bothT x = if x = 0 ∨ 0 ∈ l then 0 else if x = 2 ∨ 2 ∈ l.map tru then 2 else 1 := by
    intro l
    induction l with
    | nil => intro x hx; rcases hx with h | h | h <;> simp [h]
    | cons n l ih =>
      intro x hx
      have hb : bothT x n = 0 ∨ bothT x n = 1 ∨ bothT x n = 2 := by unfold bothT; grind
      rw [List.foldl_cons, ih _ hb, List.map_cons]
      have e0 : bothT x n = 0 ↔ x = 0 ∨ n = 0 := by unfold bothT heldT; grind
      have e2 : bothT x n = 2 ↔ ¬ (x = 0 ∨ n = 0) ∧ (x = 2 ∨ tru n = 2) := by unfold bothT heldT tru; grind
      simp only [e0, e2, List.mem_cons]
      grind
  rw [key l 1 (by simp)]
  unfold andT
  simp
theorem or_fold (l : List Int) : l.foldl eitherT 0 = orT l := by
  have key : ∀ (l : List Int) (x : Int), (x = 0 ∨ x = 1 ∨ x = 2) → l.foldl eitherT x = if x = 1 ∨ 1 ∈ l then 1 else if x = 2 ∨ 2 ∈ l.map tru then 2 else 0 := by
    intro l
    induction l with
    | nil => intro x hx; rcases hx with h | h | h <;> simp [h]
    | cons n l ih =>
      intro x hx
      have hb : eitherT x n = 0 ∨ eitherT x n = 1 ∨ eitherT x n = 2 := by unfold eitherT; grind
      rw [List.foldl_cons, ih _ hb, List.map_cons]
      have e0 : eitherT x n = 1 ↔ x = 1 ∨ n = 1 := by unfold eitherT heldT; grind
      have e2 : eitherT x n = 2 ↔ ¬ (x = 1 ∨ n = 1) ∧ (x = 2 ∨ tru n = 2) := by unfold eitherT heldT tru; grind
      simp only [e0, e2, List.mem_cons]
      grind
  rw [key l 0 (by simp)]
  unfold orT
  simp
end Go.Proofs.Ytgmhmdmfnmlhmac.PL
