/- What the functions of expressions tell. -/
import Derived.Test.YtaahlhhpmooliaaDoorFMuch
namespace Go.Proofs.YtaahlhhpmooliaaDoor.PL
open Go.Proofs
set_option linter.unusedVariables false
set_option linter.unusedSimpArgs false
/-- an expression -/
inductive Ex' where
  | mk (op : Int) (tab name : ByteArray) (t c : Int) (v : Val) (l : List Ex')
namespace Ex'
def op : Ex' → Int | mk op .. => op
def tab : Ex' → ByteArray | mk _ tab .. => tab
def name : Ex' → ByteArray | mk _ _ name .. => name
def t : Ex' → Int | mk _ _ _ t .. => t
def c : Ex' → Int | mk _ _ _ _ c .. => c
def v : Ex' → Val | mk _ _ _ _ _ v _ => v
def l : Ex' → List Ex' | mk _ _ _ _ _ _ l => l
mutual
def av : Ex' → AV
  | mk op tab name t c v l => .agg [.int .i64 op, .str tab, .str name, .int .i64 t, .int .i64 c, .int .i64 v.k, .int .i64 v.i, .str v.s, .sl .no (avL l)]
def avL : List Ex' → List AV
  | [] => []
  | e :: l => e.av :: avL l
end
theorem avL_eq : ∀ l : List Ex', avL l = avs av l
  | [] => rfl
  | e :: l => by rw [avL, avL_eq l]; rfl
abbrev cs (e : Ex') : List AV := [.int .i64 e.op, .str e.tab, .str e.name, .int .i64 e.t, .int .i64 e.c, .int .i64 e.v.k, .int .i64 e.v.i, .str e.v.s, .sl .no (avs av e.l)]
@[simp] theorem av_eq (e : Ex') : e.av = .agg e.cs := by
  cases e with
  | mk op tab name t c v l => rw [av, avL_eq]; rfl
theorem lt {e x : Ex'} (h : x ∈ e.l) : SizeOf.sizeOf x < SizeOf.sizeOf e := by
  cases e with
  | mk op tab name t c v l =>
    have := List.sizeOf_lt_of_mem (show x ∈ l from h)
    simp only [mk.sizeOf_spec]
    omega
theorem ind {Q : Ex' → Prop} (h : ∀ e : Ex', (∀ x, x ∈ e.l → Q x) → Q e) (e : Ex') : Q e := by
  have key : ∀ (n : Nat) (e : Ex'), SizeOf.sizeOf e < n → Q e := by
    intro n
    induction n with
    | zero => intro e h; omega
    | succ n ih => intro e he; exact h e fun x hx => ih x (by have := lt hx; omega)
  exact key _ e (Nat.lt_succ_self _)
theorem pl_av (e : Ex') : e.av.pl = true := by
  induction e using ind with
  | h e ih =>
    rw [av_eq]
    simp only [AV.pl, AV.pls, Bool.true_and, Bool.and_true]
    rw [AV.pls_iff]
    intro x hx
    obtain ⟨a, ha, rfl⟩ := mem_avs.1 hx
    exact ih a ha
theorem ext' {a b : Ex'} (h1 : a.op = b.op) (h2 : a.tab = b.tab) (h3 : a.name = b.name) (h4 : a.t = b.t) (h5 : a.c = b.c) (h6 : a.v = b.v) (h7 : a.l = b.l) : a = b := by
  cases a; cases b
  simp_all [op, tab, name, t, c, v, l]
end Ex'
instance : Sized Ex'.av 9 := ⟨fun e => by rw [Ex'.av_eq]; rfl⟩
instance : Plain Ex'.av := ⟨Ex'.pl_av⟩
abbrev exprs (l : List Ex') : List AV := avs Ex'.av l
open Classical in
noncomputable def sameE {α : Type} (a b : α) : Bool := decide (a = b)
theorem sameE_iff {α : Type} {a b : α} : sameE a b = true ↔ a = b := by unfold sameE; simp
theorem sameE_not {α : Type} {a b : α} : sameE a b = false ↔ ¬ a = b := by unfold sameE; simp
theorem Val.ext' {a b : Val} (h1 : a.k = b.k) (h2 : a.i = b.i) (h3 : a.s = b.s) : a = b := by cases a; cases b; simp_all

/-- what came in may be walked through -/
inductive OkE : Ex' → Prop
  | mk {e : Ex'} (hl : e.l.length < 4611686018427387904) (hv : valIn e.v) (h1 : e.tab.size ≤ reachBytes) (h2 : e.name.size ≤ reachBytes) (hs : ∀ x, x ∈ e.l → OkE x) : OkE e
theorem OkE.len {e : Ex'} (h : OkE e) : e.l.length < 4611686018427387904 := by cases h; assumption
theorem OkE.sub {e x : Ex'} (h : OkE e) (hx : x ∈ e.l) : OkE x := by cases h with | mk _ _ _ _ hs => exact hs x hx
theorem sameE_fields {a b : Ex'} (h : ¬ (¬ a.op = b.op ∨ ¬ a.tab = b.tab ∨ ¬ a.name = b.name ∨ ¬ a.t = b.t ∨ ¬ a.c = b.c ∨ ¬ (a.v.k = b.v.k ∧ a.v.i = b.v.i ∧ a.v.s = b.v.s))) : sameE a.l b.l = sameE a b := by
  rw [Bool.eq_iff_iff, sameE_iff, sameE_iff]
  exact ⟨fun e => Ex'.ext' (by grind) (by grind) (by grind) (by grind) (by grind) (Val.ext' (by grind) (by grind) (by grind)) e, fun e => by rw [e]⟩


end Go.Proofs.YtaahlhhpmooliaaDoor.PL
