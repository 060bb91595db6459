/- What the functions of expressions tell. -/
import Derived.Test.YtcjfjoilgnlemaaFMuch
namespace Go.Proofs.Ytcjfjoilgnlemaa.PL
open Go.Proofs
set_option linter.unusedVariables false
set_option linter.unusedSimpArgs false
/-- an expression -/
inductive Ex' where
  | mk (op : Int) (tab name : ByteArray) (t c : Int) (v : Val) (l : List Ex')
namespace Ex'
def op : Ex' → Int | mk op .. => op
def tab : Ex' → ByteArray | mk _ tab .. => tab
def name : Ex' → ByteArray | mk _ _ name .. => name
def t : Ex' → Int | mk _ _ _ t .. => t
def c : Ex' → Int | mk _ _ _ _ c .. => c
def v : Ex' → Val | mk _ _ _ _ _ v _ => v
def l : Ex' → List Ex' | mk _ _ _ _ _ _ l => l
mutual
def av : Ex' → AV
  | mk op tab name t c v l => .agg [.int .i64 op, .str tab, .str name, .int .i64 t, .int .i64 c, .int .i64 v.k, .int .i64 v.i, .str v.s, .sl .no (avL l)]
def avL : List Ex' → List AV
  | [] => []
  | e :: l => e.av :: avL l
end
theorem avL_eq : ∀ l : List Ex', avL l = avs av l
  | [] => rfl
  | e :: l => by rw [avL, avL_eq l]; rfl
abbrev cs (e : Ex') : List AV := [.int .i64 e.op, .str e.tab, .str e.name, .int .i64 e.t, .int .i64 e.c, .int .i64 e.v.k, .int .i64 e.v.i, .str e.v.s, .sl .no (avs av e.l)]
@[simp] theorem av_eq (e : Ex') : e.av = .agg e.cs := by
  cases e with
  | mk op tab name t c v l => rw [av, avL_eq]; rfl
theorem lt {e x : Ex'} (h : x ∈ e.l) : SizeOf.sizeOf x < SizeOf.sizeOf e := by
  cases e with
  | mk op tab name t c v l =>
    have := List.sizeOf_lt_of_mem (show x ∈ l from h)
    simp only [mk.sizeOf_spec]
    omega
theorem ind {Q : Ex' → Prop} (h : ∀ e : Ex', (∀ x, x ∈ e.l → Q x) → Q e) (e : Ex') : Q e := by
  have key : ∀ (n : Nat) (e : Ex'), SizeOf.sizeOf e < n → Q e := by
    intro n
    induction n with
    | zero => intro e h; omega
    | succ n ih => intro e he; exact h e fun x hx => ih x (by have := lt hx; omega)
  exact key _ e (Nat.lt_succ_self _)
theorem pl_av (e : Ex') : e.av.pl = true := by
  induction e using ind with
  | h e ih =>
    rw [av_eq]
    simp only [AV.pl, AV.pls, Bool.true_and, Bool.and_true]
    rw [AV.pls_iff]
    intro x hx
    obtain ⟨a, ha, rfl⟩ := mem_avs.1 hx
    exact ih a ha
theorem ext' {a b : Ex'} (h1 : a.op = b.op) (h2 : a.tab = b.tab) (h3 : a.name = b.name) (h4 : a.t = b.t) (h5 : a.c = b.c) (h6 : a.v = b.v) (h7 : a.l = b.l) : a = b := by
  cases a; cases b
  simp_all [op, tab, name, t, c, v, l]
end Ex'
instance : Sized Ex'.av 9 := ⟨fun e => by rw [Ex'.av_eq]; rfl⟩
instance : Plain Ex'.av := ⟨Ex'.pl_av⟩
abbrev exprs (l : List Ex') : List AV := avs Ex'.av l
open Classical in
noncomputable def sameE {α : Type} (a b : α) : Bool := decide (a = b)
theorem sameE_iff {α : Type} {a b : α} : sameE a b = true ↔ a = b := by unfold sameE; simp
theorem sameE_not {α : Type} {a b : α} : sameE a b = false ↔ ¬ a = b := by unfold sameE; simp
theorem Val.ext' {a b : Val} (h1 : a.k = b.k) (h2 : a.i = b.i) (h3 : a.s = b.s) : a = b := by cases a; cases b; simp_all

/-- what came in may be walked through -/
inductive OkE : Ex' → Prop
  | mk {e : Ex'} (hl : e.l.length < 4611686018427387904) (hv : valIn e.v) (h1 : e.tab.size ≤ reachBytes) (h2 : e.name.size ≤ reachBytes) (hs : ∀ x, x ∈ e.l → OkE x) : OkE e
theorem OkE.len {e : Ex'} (h : OkE e) : e.l.length < 4611686018427387904 := by cases h; assumption
theorem OkE.sub {e x : Ex'} (h : OkE e) (hx : x ∈ e.l) : OkE x := by cases h with | mk _ _ _ _ hs => exact hs x hx
theorem sameE_fields {a b : Ex'} (h : ¬ (¬ a.op = b.op ∨ ¬ a.tab = b.tab ∨ ¬ a.name = b.name ∨ ¬ a.t = b.t ∨ ¬ a.c = b.c ∨ ¬ (a.v.k = b.v.k ∧ a.v.i = b.v.i ∧ a.v.s = b.v.s))) : sameE a.l b.l = sameE a b := by
  rw [Bool.eq_iff_iff, sameE_iff, sameE_iff]
  exact ⟨fun e => Ex'.ext' (by grind) (by grind) (by grind) (by grind) (by grind) (Val.ext' (by grind) (by grind) (by grind)) e, fun e => by rw [e]⟩

set_option maxRecDepth 100000 in
theorem T_rsame08 (a : Ex') : OkE a → ∀ b : Ex', T Try.prog 82 [a.av, b.av] (.bool (sameE a b)) := by
  induction a using Ex'.ind with
  | h a ih =>
  intro ha b
  have hal := ha.len
  refine T.intro (TS.body mix Try.func82 (by kernel_rfl) rfl (by kernel_rfl) (by simp) ?_)
  simp
  repeat (refine ⟨by grind, ?_⟩)
  refine condK_of (fun h => ?_) (fun h => ?_)
  · simp at h
    simp
    exact sameE_not.2 (fun e => by subst e; simp at h)
  · simp at h
    have hlm : a.l.length = b.l.length := by grind
    have hf : sameE a.l b.l = sameE a b := sameE_fields (by grind)
    clear h
    rw [← hf]
    simp
    refine vc_loop (fun i : Nat => a.l.length - i) (fun i e H => e 2 = .ptr 0 0 ∧ e 3 = .ptr 1 0 ∧ e 5 = .int .i64 i ∧ i ≤ a.l.length ∧ a.l.take i = b.l.take i ∧ H = [.box a.cs, .box b.cs]) 0 ?_ ?_
    · simp
    rintro i e H ⟨h2, h3, h5, hi, ht, rfl⟩
    by_cases hlt : i < a.l.length
    · have hlt' : i < b.l.length := by omega
      have hc := ih a.l[i] (List.getElem_mem hlt) (ha.sub (List.getElem_mem hlt)) b.l[i]
      simp only [Ex'.av_eq] at hc
      simp [h2, h3, h5, hlt, hlt']
      refine TDK.call' hc (by simp) ?_
      simp [h2, h3, h5, hlt, hlt']
      refine condK_of (fun h3' => ?_) (fun h3' => ?_)
      · simp at h3'
        simp
        exact sameE_not.2 (fun e => sameE_not.1 h3' (by simp only [e]))
      · simp at h3'
        simp [h2, h3, h5, hlt, hlt']
        refine ⟨i + 1, by omega, wrap_next hlt (by omega), by omega, ?_⟩
        rw [take_next hlt, take_next hlt', ht, sameE_iff.1 h3']
    · have hil : i = a.l.length := by omega
      subst hil
      simp [h2, h3, h5]
      rw [List.take_length, hlm, List.take_length] at ht
      exact sameE_iff.2 ht
end Go.Proofs.Ytcjfjoilgnlemaa.PL
