/- Expressions: sums, lists of them, their levels. -/
import Derived.Test.YtaahlhhpmooliaaDoorFTree2
import Derived.Test.YtaahlhhpmooliaaDoorFGrow
namespace Go.Proofs.YtaahlhhpmooliaaDoor.PL
open Go.Proofs
set_option linter.unusedVariables false
set_option linter.unusedSimpArgs false
theorem findIdx_take {α : Type} {q : α → Bool} : ∀ {l : List α} {i : Nat} (h : i < l.length), (∀ x, x ∈ l.take i → q x = false) → q l[i] = true → l.any q = true
  | l, i, h, _, h2 => List.any_eq_true.2 ⟨l[i], List.getElem_mem h, h2⟩


theorem sumsL_any : ∀ l : List Ex', Ex'.sumsL l = l.any Ex'.sums
  | [] => by simp [Ex'.sumsL]
  | e :: l => by simp only [Ex'.sumsL, List.any_cons, sumsL_any l]
def isSum (o : Int) : Bool := decide (17 ≤ o) && decide (o ≤ 21)

def argsE (o : Int) : Int := if (12 ≤ o ∧ o ≤ 14) ∨ (18 ≤ o ∧ o ≤ 21) then 1 else if 1 ≤ o ∧ o ≤ 11 then 2 else 0


/-- a list grown from nil on, by lists that may be empty -/
def GrowE (k sz : Nat) (J : List HO) (x : AV) (xs : List AV) : Prop := (xs = [] ∧ (x = .sl .nil [] ∨ x = .sl .exact [])) ∨ ∃ t, x = .sl (.tok (t + k)) xs ∧ J[t]? = some (.spare xs.length sz)

def lvA (p : Ex' × Nat) : AV := .int .i64 p.2
abbrev lvs (L : List (Ex' × Nat)) : List AV := avs lvA L
instance : Sized lvA 1 := ⟨fun _ => rfl⟩
instance : Plain lvA := ⟨fun _ => rfl⟩
instance : Selfs lvA := ⟨fun a x h => by simp [lvA] at h; subst h; simp⟩
def exA (p : Ex' × Nat) : AV := p.1.av
abbrev exs (L : List (Ex' × Nat)) : List AV := avs exA L
instance : Sized exA 9 := ⟨fun p => by rw [exA, Ex'.av_eq]; rfl⟩
instance : Plain exA := ⟨fun p => p.1.pl_av⟩
instance : Selfs exA := ⟨fun a x h => Selfs.self (f := Ex'.av) a.1 x h⟩

def mxL : List (Ex' × Nat) → Nat
  | [] => 0
  | p :: L => max p.2 (mxL L)
theorem mxL_append : ∀ A B : List (Ex' × Nat), mxL (A ++ B) = max (mxL A) (mxL B)
  | [], B => by simp [mxL]
  | p :: A, B => by simp only [List.cons_append, mxL, mxL_append A B]; omega
theorem mx_flat (e : Ex') : ∀ d : Nat, mxL (e.flat d) + 1 = d + e.depth := by
  induction e using Ex'.ind with
  | h e ih =>
    intro d
    rw [Ex'.flat_eq, Ex'.depth_eq]
    have key : ∀ l : List Ex', (∀ x, x ∈ l → ∀ d, mxL (x.flat d) + 1 = d + x.depth) → max d (mxL (Ex'.flatL l (d + 1))) = d + Ex'.depthL l := by
      intro l
      induction l with
      | nil => intro _; simp [Ex'.flatL, Ex'.depthL, mxL]
      | cons y l ihl =>
        intro h
        have h1 := h y (List.mem_cons_self ..) (d + 1)
        have h2 := ihl fun x hx => h x (List.mem_cons_of_mem _ hx)
        simp only [Ex'.flatL, Ex'.depthL, mxL_append]
        omega
    have := key e.l ih
    simp only [mxL]
    omega
theorem sums_flat (e : Ex') : ∀ d : Nat, (e.flat d).any (fun p => isSum p.1.op) = e.sums := by
  induction e using Ex'.ind with
  | h e ih =>
    intro d
    rw [Ex'.flat_eq, Ex'.sums_eq, List.any_cons]
    have key : ∀ l : List Ex', (∀ x, x ∈ l → ∀ d : Nat, (x.flat d).any (fun p => isSum p.1.op) = x.sums) → (Ex'.flatL l (d + 1)).any (fun p => isSum p.1.op) = Ex'.sumsL l := by
      intro l
      induction l with
      | nil => intro _; simp [Ex'.flatL, Ex'.sumsL]
      | cons y l ihl =>
        intro h
        simp only [Ex'.flatL, Ex'.sumsL, List.any_append]
        rw [h y (List.mem_cons_self ..), ihl fun x hx => h x (List.mem_cons_of_mem _ hx)]
    rw [key e.l ih]
    rfl
theorem ok_cols (e : Ex') : OkE e → ∀ x, x ∈ e.cols → OkE x := by
  induction e using Ex'.ind with
  | h e ih =>
    intro he x hx
    rw [Ex'.cols_eq] at hx
    split at hx
    · simp at hx; subst hx; exact he
    · have key : ∀ l : List Ex', (∀ y, y ∈ l → OkE y → ∀ x, x ∈ y.cols → OkE x) → (∀ y, y ∈ l → OkE y) → ∀ x, x ∈ Ex'.colsL l → OkE x := by
        intro l
        induction l with
        | nil => intro _ _ x hx; simp [Ex'.colsL] at hx
        | cons y l ihl =>
          intro h h2 x hx
          simp only [Ex'.colsL, List.mem_append] at hx
          rcases hx with hx | hx
          · exact h y (List.mem_cons_self ..) (h2 y (List.mem_cons_self ..)) x hx
          · exact ihl (fun z hz => h z (List.mem_cons_of_mem _ hz)) (fun z hz => h2 z (List.mem_cons_of_mem _ hz)) x hx
      exact key e.l ih (fun y hy => he.sub hy) x hx


end Go.Proofs.YtaahlhhpmooliaaDoor.PL
