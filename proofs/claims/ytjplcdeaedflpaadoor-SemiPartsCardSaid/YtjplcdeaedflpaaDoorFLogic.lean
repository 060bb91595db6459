/- What the functions of truths tell. -/
import Derived.Test.YtjplcdeaedflpaaDoorFVal
namespace Go.Proofs.YtjplcdeaedflpaaDoor.PL
open Go.Proofs
set_option linter.unusedVariables false
set_option linter.unusedSimpArgs false
def tru (a : Int) : Int := if 0 ≤ a ∧ a ≤ 2 then a else 2
def notT (a : Int) : Int := if a = 0 then 1 else if a = 1 then 0 else 2



theorem T_lof (b : Bool) : T Tryd.prog 76 [.bool b] (.int .i64 (if b then 1 else 0)) := by
  refine T.intro (TS.body mix Tryd.func76 (by kernel_rfl) rfl (by kernel_rfl) (by simp) ?_)
  cases b <;> simp
theorem T_lis (a : Int) : T Tryd.prog 54 [.int .i64 a] (.bool (decide (a = 1))) := by
  refine T.intro (TS.body mix Tryd.func54 (by kernel_rfl) rfl (by kernel_rfl) (by simp) ?_)
  simp

def idxI : List Int → Int → Int → Int
  | [], _, _ => -1
  | n :: l, v, i => if n = v then i else idxI l v (i + 1)
theorem idxI_mem : ∀ (l : List Int) (v i : Int), 0 ≤ i → (0 ≤ idxI l v i ↔ v ∈ l)
  | [], v, i, h => by simp [idxI]
  | n :: l, v, i, h => by
    unfold idxI
    by_cases e : n = v
    · simp [e, h]
    · rw [if_neg e, idxI_mem l v (i + 1) (by omega), List.mem_cons]
      exact ⟨.inr, fun x => x.resolve_left (fun y => e y.symm)⟩
theorem T_idx (l : List Int) (v : Int) (hl : l.length < 4611686018427387904) : T Tryd.prog 22 [.sl .no (ints' l), .int .i64 v] (.int .i64 (idxI l v 0)) := by
  refine T.intro (TS.body mix Tryd.func22 (by kernel_rfl) rfl (by kernel_rfl) (by simp) ?_)
  simp
  refine vc_loop (fun i : Nat => l.length - i) (fun i e H => e 1 = .int .i64 v ∧ e 6 = .sl .no (ints' l) ∧ e 0 = .sl .no (ints' l) ∧ e 7 = .int .i64 l.length ∧ e 8 = .int .i64 i ∧ i ≤ l.length ∧ idxI l v 0 = idxI (l.drop i) v i) 0 ?_ ?_
  · simp
  rintro i e H ⟨h1, h6, h0, h7, h8, hi, hz⟩
  by_cases h : i < l.length
  · have ed : l.drop i = _ := List.drop_eq_getElem_cons h
    simp [h1, h6, h0, h7, h8, h]
    refine condK_of (fun h' => ?_) (fun h' => ?_)
    · simp at h'
      simp
      rw [hz, ed, idxI, if_pos h'.symm]
    · simp at h'
      simp [h1, h6, h0, h7, h8]
      refine ⟨i + 1, by omega, by rw [wrap_i64 (by omega) (by omega)]; simp, by omega, ?_⟩
      rw [hz, ed, idxI, if_neg (fun x => h' x.symm)]
      rfl
  · have : i = l.length := by omega
    subst this
    simp [h7, h8]
    rw [hz]; simp [idxI]
theorem T_contains (l : List Int) (v : Int) (hl : l.length < 4611686018427387904) : T Tryd.prog 38 [.sl .no (ints' l), .int .i64 v] (.bool (decide (v ∈ l))) := by
  refine T.intro (TS.body mix Tryd.func38 (by kernel_rfl) rfl (by kernel_rfl) (by simp) ?_)
  simp
  (first | refine TS.call' (T_idx l v hl) (by simp) ?_ | refine TDK.call' (T_idx l v hl) (by simp) ?_ | refine GTK.call (fun _ => ⟨T_idx l v hl, by simp⟩) ?_ | refine TS.call (T_idx l v hl) (by simp) ?_ | refine TDK.call (T_idx l v hl) (by simp) ?_); simp
  rw [idxI_mem l v 0 (by omega)]




def andT (l : List Int) : Int := if 0 ∈ l then 0 else if 2 ∈ l.map tru then 2 else 1
def orT (l : List Int) : Int := if 1 ∈ l then 1 else if 2 ∈ l.map tru then 2 else 0

def heldT (a : Int) : Int := if a = 0 then 0 else if a = 1 then 1 else 2
theorem heldT_cases (a : Int) : heldT a = 0 ∨ heldT a = 1 ∨ heldT a = 2 := by unfold heldT; split <;> (try split) <;> simp
def bothT (a b : Int) : Int := if heldT a = 0 ∨ heldT b = 0 then 0 else if heldT a = 1 ∧ heldT b = 1 then 1 else 2
def eitherT (a b : Int) : Int := if heldT a = 1 ∨ heldT b = 1 then 1 else if heldT a = 0 ∧ heldT b = 0 then 0 else 2






theorem and_fold (l : List Int) : l.foldl bothT 1 = andT l := by
  have key : ∀ (l : List Int) (x : Int), (x = 0 ∨ x = 1 ∨ x = 2) → l.foldl bothT x = if x = 0 ∨ 0 ∈ l then 0 else if x = 2 ∨ 2 ∈ l.map tru then 2 else 1 := by
    intro l
    induction l with
    | nil => intro x hx; rcases hx with h | h | h <;> simp [h]
    | cons n l ih =>
      intro x hx
      have hb : bothT x n = 0 ∨ bothT x n = 1 ∨ bothT x n = 2 := by unfold bothT; grind
      rw [List.foldl_cons, ih _ hb, List.map_cons]
      have e0 : bothT x n = 0 ↔ x = 0 ∨ n = 0 := by unfold bothT heldT; grind
      have e2 : bothT x n = 2 ↔ ¬ (x = 0 ∨ n = 0) ∧ (x = 2 ∨ tru n = 2) := by unfold bothT heldT tru; grind
      simp only [e0, e2, List.mem_cons]
      grind
  rw [key l 1 (by simp)]
  unfold andT
  simp
theorem or_fold (l : List Int) : l.foldl eitherT 0 = orT l := by
  have key : ∀ (l : List Int) (x : Int), (x = 0 ∨ x = 1 ∨ x = 2) → l.foldl eitherT x = if x = 1 ∨ 1 ∈ l then 1 else if x = 2 ∨ 2 ∈ l.map tru then 2 else 0 := by
    intro l
    induction l with
    | nil => intro x hx; rcases hx with h | h | h <;> simp [h]
    | cons n l ih =>
      intro x hx
      have hb : eitherT x n = 0 ∨ eitherT x n = 1 ∨ eitherT x n = 2 := by unfold eitherT; grind
      rw [List.foldl_cons, ih _ hb, List.map_cons]
      have e0 : eitherT x n = 1 ↔ x = 1 ∨ n = 1 := by unfold eitherT heldT; grind
      have e2 : eitherT x n = 2 ↔ ¬ (x = 1 ∨ n = 1) ∧ (x = 2 ∨ tru n = 2) := by unfold eitherT heldT tru; grind
      simp only [e0, e2, List.mem_cons]
      grind
  rw [key l 0 (by simp)]
  unfold orT
  simp



end Go.Proofs.YtjplcdeaedflpaaDoor.PL
