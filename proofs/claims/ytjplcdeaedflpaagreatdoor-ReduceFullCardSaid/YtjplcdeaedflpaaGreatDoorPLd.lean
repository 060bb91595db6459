/- A logic of plain values for functions of the program: what it shows of a function's code holds of each run (part d). -/
import Derived.Test.YtjplcdeaedflpaaGreatDoorPLc
import Derived.Laws.Strings
import Derived.Laws.StructEq
set_option linter.unusedVariables false
set_option linter.unusedSimpArgs false
namespace Go.Proofs.YtjplcdeaedflpaaGreatDoor.PL
open Go.RowKit

/-! ### values that hang on no object, and what says less than they do -/
mutual
def AV.pl : AV → Bool
  | .any | .bool _ | .int _ _ | .str _ | .nilp | .nilm | .nilf | .nili => true
  | .agg cs => AV.pls cs
  | .tup cs => AV.pls cs
  | .ref cs => AV.pls cs
  | .sl (.tok _) _ => false
  | .sl _ xs => AV.pls xs
  | .fn _ a b => AV.pls a && AV.pls b
  | .iface _ v => v.pl
  | _ => false
def AV.pls : List AV → Bool
  | [] => true
  | x :: xs => x.pl && AV.pls xs
end
theorem AV.pls_iff {xs : List AV} : AV.pls xs = true ↔ ∀ x, x ∈ xs → x.pl = true := by
  induction xs with
  | nil => simp [AV.pls]
  | cons a l ih => simp [AV.pls, ih]
theorem AV.pls_cells {xs : List AV} (h : AV.pls xs = true) : AV.pls (xs.flatMap AV.cells) = true := by
  rw [AV.pls_iff] at *
  intro x hx
  obtain ⟨y, hy, hxy⟩ := List.mem_flatMap.1 hx
  have := h y hy
  cases y with
  | agg cs => exact AV.pls_iff.1 (by simpa [AV.pl] using this) x hxy
  | _ => simp [AV.cells] at hxy; subst hxy; exact this
theorem AV.pls_sl {own : Own} {xs : List AV} (h : (AV.sl own xs).pl = true) : AV.pls xs = true := by cases own <;> simp_all [AV.pl]
theorem Own.fits.pl {Γ : Gh} {own : Own} {n : Nat} {a : Option Addr} {cap : Nat} (h : own.fits Γ n a cap) (ho : ∀ t, own ≠ .tok t) (I : Nat → Nat → Option Value) : own.fits (PI I) n a cap := by
  cases own with
  | no => trivial
  | exact => exact h
  | nil => exact h
  | tok t => exact absurd rfl (ho t)
mutual
theorem VR.pl {Γ : Gh} {x : AV} {v : Value} (r : VR Γ x v) (h : x.pl = true) : VR (PI Γ.I) x v :=
  match r with
  | .any v => .any v
  | .bool b => .bool b
  | .int k n => .int k n
  | .str s => .str s
  | .agg h1 r => .agg h1 (VRs.pl r (by simpa [AV.pl] using h))
  | .tup r => .tup (VRs.pl r (by simpa [AV.pl] using h))
  | .ptr r => absurd h (by simp [AV.pl])
  | .nilp => .nilp
  | .ref h1 r hi => .ref h1 (VRs.pl r (by simpa [AV.pl] using h)) hi
  | .sl0 (own := own) ho => .sl0 (ho.pl (by rintro t rfl; simp [AV.pl] at h) _)
  | .sl (own := own) hn hs h1 r hi ho hc => .sl hn hs h1 (VRs.pl r (AV.pls_cells (AV.pls_sl h))) hi (ho.pl (by rintro t rfl; simp [AV.pl] at h) _) hc
  | .map r => absurd h (by simp [AV.pl])
  | .nilm => .nilm
  | .fn r r' => .fn (VRs.pl r (by simp [AV.pl] at h; exact h.1)) (VRs.pl r' (by simp [AV.pl] at h; exact h.2))
  | .nilf => .nilf
  | .nili => .nili
  | .iface r => .iface (VR.pl r (by simpa [AV.pl] using h))
  | .opt r r' => absurd h (by simp [AV.pl])
  | .mv r _ _ _ => absurd h (by simp [AV.pl])
  | .eptr r => absurd h (by simp [AV.pl])
  | .ub b => absurd h (by simp [AV.pl])
theorem VRs.pl {Γ : Gh} {xs : List AV} {vs : List Value} (r : VRs Γ xs vs) (h : AV.pls xs = true) : VRs (PI Γ.I) xs vs :=
  match r with
  | .nil => .nil
  | .cons r t => .cons (VR.pl r (by simp [AV.pls] at h; exact h.1)) (VRs.pl t (by simp [AV.pls] at h; exact h.2))
end
theorem Cl.self {x : AV} (h : x.pl = true) : Cl x x := fun Γ v r => r.pl h
theorem Cls.self : ∀ {xs : List AV}, AV.pls xs = true → Cls xs xs
  | [], _ => .nil
  | x :: xs, h => by simp only [AV.pls, Bool.and_eq_true] at h; exact .cons (Cl.self h.1) (Cls.self h.2)
theorem Cl.no {own : Own} {xs : List AV} (h : AV.pls xs = true) : Cl (.sl own xs) (.sl .no xs) := by
  intro Γ v r
  cases r with
  | sl0 ho => exact .sl0 trivial
  | sl hn hs h1 r hi ho hc => exact .sl hn hs h1 (r.pl (AV.pls_cells h)) hi trivial hc

/-- a value that says less, of one cell -/
def Cl1 (x y : AV) : Prop :=
  match x, y with
  | .bool a, .bool b => a = b
  | .int k a, .int l b => k = l ∧ a = b
  | .str a, .str b => a = b
  | .nilp, .nilp | .nilm, .nilm | .nilf, .nilf | .nili, .nili => True
  | .ref a, .ref b => a = b ∧ AV.pls a = true
  | .sl o a, .sl p b => (p = .no ∨ p = .exact ∧ o = .exact) ∧ a = b ∧ AV.pls a = true
  | .fn f a b, .fn g c d => f = g ∧ a = c ∧ b = d ∧ AV.pls a = true ∧ AV.pls b = true
  | .iface t a, .iface u b => t = u ∧ a = b ∧ a.pl = true
  | _, _ => False
theorem Cl1.cl {x y : AV} (h : Cl1 x y) : Cl x y ∧ (x.one = true → y.one = true) := by
  unfold Cl1 at h
  split at h
  · subst h; exact ⟨Cl.self rfl, id⟩
  · obtain ⟨rfl, rfl⟩ := h; exact ⟨Cl.self rfl, id⟩
  · subst h; exact ⟨Cl.self rfl, id⟩
  · exact ⟨Cl.self rfl, id⟩
  · exact ⟨Cl.self rfl, id⟩
  · exact ⟨Cl.self rfl, id⟩
  · exact ⟨Cl.self rfl, id⟩
  · obtain ⟨rfl, h⟩ := h; exact ⟨Cl.self (by simpa [AV.pl] using h), id⟩
  · obtain ⟨rfl | ⟨rfl, rfl⟩, rfl, h⟩ := h
    · exact ⟨Cl.no h, fun _ => rfl⟩
    · exact ⟨Cl.self (by simpa [AV.pl] using h), id⟩
  · obtain ⟨rfl, rfl, rfl, h, h'⟩ := h; exact ⟨Cl.self (by simp [AV.pl, h, h']), id⟩
  · obtain ⟨rfl, rfl, h⟩ := h; exact ⟨Cl.self (by simpa [AV.pl] using h), id⟩
  · exact h.elim
def Cls1 : List AV → List AV → Prop
  | [], [] => True
  | x :: xs, y :: ys => Cl1 x y ∧ Cls1 xs ys
  | _, _ => False
theorem Cls1.vrs {Γ : Gh} : ∀ {xs ys : List AV} {vs : List Value}, Cls1 xs ys → AV.ones xs → VRs Γ xs vs → VRs (PI Γ.I) ys vs ∧ AV.ones ys
  | [], [], _, _, _, .nil => ⟨.nil, fun x h => by cases h⟩
  | x :: xs, y :: ys, _, h, ho, .cons r t => by
    have h1 := Cls1.vrs h.2 (fun z hz => ho z (by simp [hz])) t
    have h2 := Cl1.cl h.1
    refine ⟨.cons (h2.1 _ _ r) h1.1, fun z hz => ?_⟩
    rcases List.mem_cons.1 hz with rfl | hz
    · exact h2.2 (ho x (by simp))
    · exact h1.2 z hz
/-- and of an aggregate -/
def Cl2 (x y : AV) : Prop := match x, y with | .agg cs, .agg ds => Cls1 cs ds | x, y => Cl1 x y
theorem Cl2.cl {x y : AV} (h : Cl2 x y) : Cl x y := by
  unfold Cl2 at h
  split at h
  · intro Γ v r
    cases r with
    | agg h1 r => have := Cls1.vrs h h1 r; exact .agg this.2 this.1
  · exact h.cl.1
def Cls2 : List AV → List AV → Prop
  | [], [] => True
  | x :: xs, y :: ys => Cl2 x y ∧ Cls2 xs ys
  | _, _ => False
theorem Cls2.cls : ∀ {xs ys : List AV}, Cls2 xs ys → Cls xs ys
  | [], [], _ => .nil
  | _ :: _, _ :: _, h => .cons h.1.cl h.2.cls
def Cl3 (x y : AV) : Prop := match x, y with | .tup cs, .tup ds => Cls2 cs ds | x, y => Cl2 x y
theorem Cl3.cl {x y : AV} (h : Cl3 x y) : Cl x y := by
  unfold Cl3 at h
  split at h
  · intro Γ v r
    cases r with
    | tup r => exact .tup ((h.cls).VRs r)
  · exact h.cl

/-- what is told -/
def retK (r : AV) : AV → List HO → Prop := fun r' _ => Cl3 r' r
@[simp] theorem retK_apply {r r' : AV} {H : List HO} : retK r r' H = Cl3 r' r := _root_.id rfl
theorem T.intro {P : Program} {f : FuncId} {args : List AV} {r : AV} (h : TS P f args [] (retK r)) : T P f args r := T.of_TS (h.mono fun r' H' h => Cl3.cl h)
theorem TS.call {P : Program} {f : FuncId} {args ys : List AV} {H : List HO} {K : AV → List HO → Prop} {r : AV} (h : T P f ys r) (hc : Cls2 args ys) (hk : K r H) : TS P f args H K := TS.of_T h hc.cls hk
theorem TS.call' {P : Program} {f : FuncId} {args : List AV} {H : List HO} {K : AV → List HO → Prop} {r : AV} (h : T P f args r) (hc : AV.pls args = true) (hk : K r H) : TS P f args H K :=
  TS.of_T h (Cls.self hc) hk
theorem TDK.call' {P : Program} {f : FuncId} {xs : List AV} {r : AV} {H : List HO} {K : AV → List HO → Prop} (h : T P f xs r) (hc : AV.pls xs = true) (hk : K r H) : TDK P f xs H K := TDK.of h (Cls.self hc) hk
theorem TDK.call {P : Program} {f : FuncId} {xs ys : List AV} {r : AV} {H : List HO} {K : AV → List HO → Prop} (h : T P f ys r) (hc : Cls2 xs ys) (hk : K r H) : TDK P f xs H K := TDK.of h hc.cls hk

@[simp] theorem AV.pls_map {α : Type} {f : α → AV} {l : List α} (h : ∀ a, a ∈ l → (f a).pl = true) : AV.pls (l.map f) = true := by
  rw [AV.pls_iff]; intro x hx; obtain ⟨a, ha, rfl⟩ := List.mem_map.1 hx; exact h a ha
@[simp] theorem AV.pls_append {a b : List AV} : AV.pls (a ++ b) = (AV.pls a && AV.pls b) := by induction a with | nil => simp [AV.pls] | cons x l ih => simp [AV.pls, ih, Bool.and_assoc]
attribute [simp] AV.pl AV.pls Cls1 Cls2
@[simp] theorem Cl3_tup {a b : List AV} : Cl3 (.tup a) (.tup b) = Cls2 a b := rfl
@[simp] theorem Cl3_agg {a b : List AV} : Cl3 (.agg a) (.agg b) = Cls1 a b := rfl
@[simp] theorem Cl3_bool {a b : Bool} : Cl3 (.bool a) (.bool b) = (a = b) := rfl
@[simp] theorem Cl3_int {k l : IntKind} {a b : Int} : Cl3 (.int k a) (.int l b) = (k = l ∧ a = b) := rfl
@[simp] theorem Cl3_str {a b : ByteArray} : Cl3 (.str a) (.str b) = (a = b) := rfl
@[simp] theorem Cl3_sl {o p : Own} {a b : List AV} : Cl3 (.sl o a) (.sl p b) = ((p = .no ∨ p = .exact ∧ o = .exact) ∧ a = b ∧ AV.pls a = true) := rfl
@[simp] theorem Cl3_nilp : Cl3 .nilp .nilp = True := rfl
@[simp] theorem Cl3_nilm : Cl3 .nilm .nilm = True := rfl
@[simp] theorem Cl3_nilf : Cl3 .nilf .nilf = True := rfl
@[simp] theorem Cl3_ref {a b : List AV} : Cl3 (.ref a) (.ref b) = (a = b ∧ AV.pls a = true) := rfl
@[simp] theorem Cl3_fn {f g : Fn} {a b c d : List AV} : Cl3 (.fn f a b) (.fn g c d) = (f = g ∧ a = c ∧ b = d ∧ AV.pls a = true ∧ AV.pls b = true) := rfl
@[simp] theorem Cl2_agg {a b : List AV} : Cl2 (.agg a) (.agg b) = Cls1 a b := rfl
@[simp] theorem Cl2_bool {a b : Bool} : Cl2 (.bool a) (.bool b) = (a = b) := rfl
@[simp] theorem Cl2_int {k l : IntKind} {a b : Int} : Cl2 (.int k a) (.int l b) = (k = l ∧ a = b) := rfl
@[simp] theorem Cl2_str {a b : ByteArray} : Cl2 (.str a) (.str b) = (a = b) := rfl
@[simp] theorem Cl2_sl {o p : Own} {a b : List AV} : Cl2 (.sl o a) (.sl p b) = ((p = .no ∨ p = .exact ∧ o = .exact) ∧ a = b ∧ AV.pls a = true) := rfl
@[simp] theorem Cl2_nilp : Cl2 .nilp .nilp = True := rfl
@[simp] theorem Cl2_nilm : Cl2 .nilm .nilm = True := rfl
@[simp] theorem Cl2_nilf : Cl2 .nilf .nilf = True := rfl
@[simp] theorem Cl2_ref {a b : List AV} : Cl2 (.ref a) (.ref b) = (a = b ∧ AV.pls a = true) := rfl
@[simp] theorem Cl2_fn {f g : Fn} {a b c d : List AV} : Cl2 (.fn f a b) (.fn g c d) = (f = g ∧ a = c ∧ b = d ∧ AV.pls a = true ∧ AV.pls b = true) := rfl
@[simp] theorem Cl1_bool {a b : Bool} : Cl1 (.bool a) (.bool b) = (a = b) := rfl
@[simp] theorem Cl1_int {k l : IntKind} {a b : Int} : Cl1 (.int k a) (.int l b) = (k = l ∧ a = b) := rfl
@[simp] theorem Cl1_str {a b : ByteArray} : Cl1 (.str a) (.str b) = (a = b) := rfl
@[simp] theorem Cl1_sl {o p : Own} {a b : List AV} : Cl1 (.sl o a) (.sl p b) = ((p = .no ∨ p = .exact ∧ o = .exact) ∧ a = b ∧ AV.pls a = true) := rfl
@[simp] theorem Cl1_nilp : Cl1 .nilp .nilp = True := rfl
@[simp] theorem Cl1_nilm : Cl1 .nilm .nilm = True := rfl
@[simp] theorem Cl1_nilf : Cl1 .nilf .nilf = True := rfl
@[simp] theorem Cl1_ref {a b : List AV} : Cl1 (.ref a) (.ref b) = (a = b ∧ AV.pls a = true) := rfl
@[simp] theorem Cl1_fn {f g : Fn} {a b c d : List AV} : Cl1 (.fn f a b) (.fn g c d) = (f = g ∧ a = c ∧ b = d ∧ AV.pls a = true ∧ AV.pls b = true) := rfl

/-! ### loops -/
def loopK (Q : Ex → Env → List HO → Prop) (G : Env → List HO → Prop) : Ex → Env → List HO → Prop := fun x e H => match x with | .normal => G e H | x => Q x e H
theorem loopK_normal {Q : Ex → Env → List HO → Prop} {G : Env → List HO → Prop} {e : Env} {H : List HO} : loopK Q G .normal e H = G e H := _root_.id rfl
theorem loopK_exit {Q : Ex → Env → List HO → Prop} {G : Env → List HO → Prop} {i : Nat} {e : Env} {H : List HO} : loopK Q G (.exit i) e H = Q (.exit i) e H := _root_.id rfl
theorem loopK_ret {Q : Ex → Env → List HO → Prop} {G : Env → List HO → Prop} {e : Env} {H : List HO} : loopK Q G .ret e H = Q .ret e H := _root_.id rfl
theorem loopK_goto {Q : Ex → Env → List HO → Prop} {G : Env → List HO → Prop} {l : Nat} {e : Env} {H : List HO} : loopK Q G (.goto l) e H = Q (.goto l) e H := _root_.id rfl
attribute [simp] loopK_normal loopK_exit loopK_ret loopK_goto
/-- A loop: what holds at each round's head, told by something that grows smaller. -/
def loopG {σ : Type} (μ : σ → Nat) (J : σ → Env → List HO → Prop) (s : σ) : Env → List HO → Prop := fun e' H' => ∃ s', μ s' < μ s ∧ J s' e' H'
@[simp] theorem loopG_apply {σ : Type} {μ : σ → Nat} {J : σ → Env → List HO → Prop} {s : σ} {e : Env} {H : List HO} : loopG μ J s e H = ∃ s', μ s' < μ s ∧ J s' e H := _root_.id rfl
theorem vc_loop {P : Program} {M : List Nat} {c : Code} {Q : Ex → Env → List HO → Prop} {e : Env} {H : List HO} {σ : Type} (μ : σ → Nat) (J : σ → Env → List HO → Prop) (s : σ) (h : J s e H)
    (step : ∀ s e H, J s e H → vc P M c (loopK Q (loopG μ J s)) e H) : vc P M (.loop c) Q e H := by
  refine ⟨fun n e H => ∃ s, μ s = n ∧ J s e H, ⟨μ s, s, rfl, h⟩, ?_⟩
  rintro n e H ⟨s, rfl, hj⟩
  have h1 := step s e H hj
  have : (loopK Q (loopG μ J s)) = (fun x e' H' => match x with | .normal => ∃ m, m < μ s ∧ ∃ s', μ s' = m ∧ J s' e' H' | x => Q x e' H') := by
    funext x e' H'
    cases x with
    | normal => exact propext ⟨fun ⟨s', a, b⟩ => ⟨_, a, s', rfl, b⟩, fun ⟨m, a, s', b, c⟩ => ⟨s', by omega, c⟩⟩
    | _ => rfl
  rw [this] at h1
  exact h1

/-- A scope with jumps back to a label. -/
theorem SC.jumps {P : Program} {M : List Nat} {c : Code} {Q : Ex → Env → List HO → Prop} {e : Env} {H : List HO} (hmix : P.follows .mixedOrders = true) (l : Nat) (hf : (findLabel c l).isSome = true) {σ : Type} (μ : σ → Nat) (J : σ → Env → List HO → Prop)
    (first : preVc P M c l (fun e H => ∃ s, J s e H) (jmpK l (fun e H => ∃ s, J s e H) Q) e H)
    (pass : ∀ s e H, J s e H → restVc P M c l (jmpK l (loopG μ J s) Q) e H) : SC P M c Q e H := by
  have e1 : (fun (e : Env) (H : List HO) => ∃ s, J s e H) = fun e H => ∃ n, ∃ s, μ s = n ∧ J s e H := by
    funext e H
    exact propext ⟨fun ⟨s, h⟩ => ⟨_, s, rfl, h⟩, fun ⟨n, s, _, h⟩ => ⟨s, h⟩⟩
  refine SC.jumps0 hmix l hf (fun n e H => ∃ s, μ s = n ∧ J s e H) (by rw [← e1]; exact first) ?_
  rintro n e H ⟨s, rfl, h⟩
  have h1 := pass s e H h
  have e2 : loopG μ J s = fun e H => ∃ m, m < μ s ∧ ∃ s', μ s' = m ∧ J s' e H := by
    funext e' H'
    exact propext ⟨fun ⟨s', a, b⟩ => ⟨_, a, s', rfl, b⟩, fun ⟨m, a, s', b, c⟩ => ⟨s', by omega, c⟩⟩
  rw [e2] at h1
  exact h1

/-! ### numbers -/
theorem wrap_i64 {n : Int} (h : -9223372036854775808 ≤ n) (h' : n < 9223372036854775808) : IntKind.wrap .i64 n = n := by
  unfold IntKind.wrap; simp [IntKind.signed, IntKind.bits]; omega

/-! ### bytes of texts -/
theorem toList_length (a : ByteArray) : a.toList.length = a.size := by rw [ByteArray.toList_eq]; simp
theorem byteAt_get {a : ByteArray} {i : Nat} (h : i < a.toList.length) : byteAt a i = ((a.toList[i]'h).toNat : Int) := by
  have h2 : a.data.toList[i]? = some (a.toList[i]'h) := by simp [ByteArray.toList_eq]
  simp [byteAt, h2]
end Go.Proofs.YtjplcdeaedflpaaGreatDoor.PL

namespace Go.Proofs.YtjplcdeaedflpaaGreatDoor.PL
open Go.RowKit

/-! ### what simp is to know of guarded operations -/
def optK {α : Type} (o : Option α) (A : α → Prop) : Prop := match o with | none => False | some a => A a
theorem optK_some {α : Type} {a : α} {A : α → Prop} : optK (some a) A = A a := _root_.id rfl
theorem optK_congr {α : Type} {o o' : Option α} {A : α → Prop} (h : o = o') : optK o A = optK o' A := by rw [h]

/-- a guarded call -/
def GTK (P : Program) (d : Bool) (f : FuncId) (xs : List AV) (g : Bool) (H : List HO) (K : AV → List HO → Prop) : Prop :=
  (∃ r, (g = true → TD P f xs r) ∧ K (.opt g r) H) ∨ (d = false ∧ (g = true → TS P f xs H fun r H' => K (.opt g r) H') ∧ (g = false → ∃ r, K (.opt g r) H))
theorem GTK_congr {P : Program} {d : Bool} {f : FuncId} {xs xs' : List AV} {g g' : Bool} {H H' : List HO} {K : AV → List HO → Prop} (h1 : xs = xs') (h2 : g = g') (h3 : H = H') : GTK P d f xs g H K = GTK P d f xs' g' H' K := by rw [h1, h2, h3]
theorem GTK.call {P : Program} {d : Bool} {f : FuncId} {xs ys : List AV} {g : Bool} {H : List HO} {K : AV → List HO → Prop} {r : AV} (h : g = true → T P f ys r ∧ Cls2 xs ys) (hk : K (.opt g r) H) : GTK P d f xs g H K :=
  .inl ⟨r, fun e => TD.of_T (h e).1 (h e).2.cls, hk⟩
/-- one that changes memory, where the order is fixed -/
theorem GTK.yes {P : Program} {f : FuncId} {xs : List AV} {H : List HO} {K : AV → List HO → Prop} (h : TS P f xs H fun r H' => K (.opt true r) H') : GTK P false f xs true H K := .inr ⟨rfl, fun _ => h, fun x => (by cases x)⟩
theorem GTK.no {P : Program} {f : FuncId} {xs : List AV} {H : List HO} {K : AV → List HO → Prop} (h : K (.opt false .any) H) : GTK P false f xs false H K := .inr ⟨rfl, fun x => (by cases x), fun _ => ⟨_, h⟩⟩
/-- .. whether it is called or not -/
theorem GTK.inv {P : Program} {f : FuncId} {xs : List AV} {g : Bool} {H : List HO} {K : AV → List HO → Prop} {r : AV} (I : List HO → Prop) (h : g = true → TS P f xs H fun r' H' => r' = r ∧ I H') (h0 : I H) (hk : ∀ H', I H' → K (.opt g r) H') : GTK P false f xs g H K :=
  .inr ⟨rfl, fun hg => (h hg).mono fun r' H' ⟨e, hi⟩ => by subst e; exact hk H' hi, fun _ => ⟨r, hk H h0⟩⟩
def gcallK (P : Program) (d : Bool) (f : AV) (xs : List AV) (g : Bool) (B : Prop) (H : List HO) (K : AV → List HO → Prop) : Prop :=
  match f with
  | .fn (.func f) first captured => (g = true → B) ∧ GTK P d f (first ++ xs ++ captured) g H K
  | _ => False
theorem gcallK_congr {P : Program} {d : Bool} {f f' : AV} {xs xs' : List AV} {g g' : Bool} {B B' : Prop} {H H' : List HO} {K : AV → List HO → Prop} (h0 : f = f') (h1 : xs = xs') (h2 : g = g') (hb : B = B') (h3 : H = H') : gcallK P d f xs g B H K = gcallK P d f' xs' g' B' H' K := by rw [h0, h1, h2, hb, h3]
theorem gcallK_fn {P : Program} {d : Bool} {f : FuncId} {first captured xs : List AV} {g : Bool} {B : Prop} {H : List HO} {K : AV → List HO → Prop} : gcallK P d (.fn (.func f) first captured) xs g B H K = ((g = true → B) ∧ GTK P d f (first ++ xs ++ captured) g H K) := _root_.id rfl

def gopK (P : Program) (M : List Nat) (d : Bool) (ops : Array Oper) (op : Op) (dst : Option Nat) (ty : Nat) (pos : String) (after : Array Edge) (gr : Option (Nat × Bool)) (g : Bool) (e : Env) (H : List HO) (K : AV → List HO → Prop) : Prop :=
  if isP op = true then (g = true → gO op e ∧ psOp P op (gE op e) H) ∧ K (.opt g (pvOp P op (gE op e) H)) H
  else match op with
  | .call { callee := .value x, args := xs, .. } => gcallK P d (evA e x).un (xs.toList.map fun x => (evA e x).un) g (∀ y, y ∈ x :: xs.toList → (evA e y).optB = true) H K
  | _ => (g = true → (∀ x, x ∈ op.operands.toList → (evA e x).optB = true) ∧ vcOp P M d ⟨dst, op, ty, pos, after, gr⟩ (fun y0 => (evA e y0).un) H K) ∧ (g = false → K (.tup []) H)

section
variable {P : Program} {M : List Nat} {d : Bool} {ops : Array Oper} {e : Env} {H : List HO} {E : Ev} {K : AV → List HO → Prop} {dst : Option Nat} {ty : Nat} {pos : String} {after : Array Edge} {gr : Option (Nat × Bool)} {g : Bool}
theorem gopK_congr {op : Op} {e e' : Env} {H H' : List HO} {g' : Bool} (hg : g = g') (h1 : e = e') (h2 : H = H') : gopK P M d ops op dst ty pos after gr g e H K = gopK P M d ops op dst ty pos after gr g' e' H' K := by rw [hg, h1, h2]
theorem mem_toList' {α : Type} {xs : Array α} {Q : α → Prop} : (∀ x, x ∈ xs.toList → Q x) = (∀ x, x ∈ xs → Q x) := by simp

theorem vcG_some {op : Op} {j : Nat} {w : Bool} : vcG P M d ops ⟨dst, op, ty, pos, after, some (j, w)⟩ e H K = optK ((ops[j]?).bind (·.dst)) fun t => optK (gb (e t) w) fun g => gopK P M d ops op dst ty pos after (some (j, w)) g e H K := by
  unfold vcG optK
  dsimp only
  cases h : (ops[j]?).bind (·.dst) with
  | none => rfl
  | some t =>
    dsimp only
    cases h2 : gb (e t) w with
    | none => rfl
    | some g =>
      dsimp only [gopK]
      cases hp : isP op with
      | true => simp only [if_true]
      | false =>
        simp only [Bool.false_eq_true, if_false]
        split
        · rename_i x xs ts
          dsimp only
          unfold gcallK GTK
          cases hx : (evA e x).un with
          | fn f first captured =>
            cases f with
            | func f =>
              dsimp only
              apply propext
              have hm : (∀ y, y ∈ (Op.call { callee := Callee.value x, args := xs, argTypes := ts }).operands → (evA e y).optB = true) ↔ (∀ y, y ∈ x :: xs.toList → (evA e y).optB = true) := by
                simp [Op.operands, Call.operands]
              rw [hm]
              constructor
              · rintro (⟨r, h1, h2⟩ | ⟨hd, h1, h2⟩)
                · exact ⟨fun hg => (h1 hg).1, .inl ⟨r, fun hg => (h1 hg).2, h2⟩⟩
                · exact ⟨fun hg => (h1 hg).1, .inr ⟨hd, fun hg => (h1 hg).2, h2⟩⟩
              · rintro ⟨h0, ⟨r, h1, h2⟩ | ⟨hd, h1, h2⟩⟩
                · exact .inl ⟨r, fun hg => ⟨h0 hg, h1 hg⟩, h2⟩
                · exact .inr ⟨hd, fun hg => ⟨h0 hg, h1 hg⟩, h2⟩
            | _ => rfl
          | _ => rfl
        · rename_i hne
          split
          · exact absurd rfl (hne _ _ _)
          · simp only [mem_toList']
theorem gopK_P {op : Op} (h : isP op = true) : gopK P M d ops op dst ty pos after gr g e H K = ((g = true → gO op e ∧ psOp P op (gE op e) H) ∧ K (.opt g (pvOp P op (gE op e) H)) H) := by unfold gopK; rw [if_pos h]
theorem gopK_call {x : Operand} {xs : Array Operand} {ts : Array TypeId} : gopK P M d ops (.call { callee := .value x, args := xs, argTypes := ts }) dst ty pos after gr g e H K = gcallK P d (evA e x).un (xs.toList.map fun x => (evA e x).un) g (∀ y, y ∈ x :: xs.toList → (evA e y).optB = true) H K := _root_.id rfl

theorem psOp_move {x : Operand} : psOp P (.move x) E H = (True) := rfl
theorem pvOp_move {x : Operand} : pvOp P (.move x) E H = (E x) := rfl
theorem gopK_move {x : Operand} : gopK P M d ops (.move x) dst ty pos after gr g e H K = ((g = true → (∀ y0, y0 ∈ (Op.operands (.move x)).toList → (evA e y0).optB = true) ∧ psOp P (.move x) (fun y0 => (evA e y0).un) H) ∧ K (.opt g (pvOp P (.move x) (fun y0 => (evA e y0).un) H)) H) := by rw [gopK_P (op := (.move x)) rfl]; simp only [gO, gE, mem_toList']
theorem psOp_assign {x : Operand} : psOp P (.assign x) E H = (True) := rfl
theorem pvOp_assign {x : Operand} : pvOp P (.assign x) E H = (E x) := rfl
theorem gopK_assign {x : Operand} : gopK P M d ops (.assign x) dst ty pos after gr g e H K = ((g = true → (∀ y0, y0 ∈ (Op.operands (.assign x)).toList → (evA e y0).optB = true) ∧ psOp P (.assign x) (fun y0 => (evA e y0).un) H) ∧ K (.opt g (pvOp P (.assign x) (fun y0 => (evA e y0).un) H)) H) := by rw [gopK_P (op := (.assign x)) rfl]; simp only [gO, gE, mem_toList']
theorem psOp_nilCheck {x : Operand} : psOp P (.nilCheck x) E H = (nchkS (E x)) := rfl
theorem pvOp_nilCheck {x : Operand} : pvOp P (.nilCheck x) E H = (E x) := rfl
theorem gopK_nilCheck {x : Operand} : gopK P M d ops (.nilCheck x) dst ty pos after gr g e H K = ((g = true → (∀ y0, y0 ∈ (Op.operands (.nilCheck x)).toList → (evA e y0).optB = true) ∧ psOp P (.nilCheck x) (fun y0 => (evA e y0).un) H) ∧ K (.opt g (pvOp P (.nilCheck x) (fun y0 => (evA e y0).un) H)) H) := by rw [gopK_P (op := (.nilCheck x)) rfl]; simp only [gO, gE, mem_toList']
theorem psOp_pick {c a b : Operand} : psOp P (.pick c a b) E H = (pickS (E c) (E a) (E b)) := rfl
theorem pvOp_pick {c a b : Operand} : pvOp P (.pick c a b) E H = (pickV (E c) (E a) (E b)) := rfl
theorem gopK_pick {c a b : Operand} : gopK P M d ops (.pick c a b) dst ty pos after gr g e H K = ((g = true → psOp P (.pick c a b) (evA e) H) ∧ K (.opt g (pvOp P (.pick c a b) (evA e) H)) H) := by rw [gopK_P (op := (.pick c a b)) rfl]; simp only [gO, gE, true_and]
theorem psOp_binOp {op : BinOp} {t t2 : Nat} {x y : Operand} : psOp P (.binOp op t x y t2) E H = (binS P op t (E x) (E y)) := rfl
theorem pvOp_binOp {op : BinOp} {t t2 : Nat} {x y : Operand} : pvOp P (.binOp op t x y t2) E H = (binV op (E x) (E y)) := rfl
theorem gopK_binOp {op : BinOp} {t t2 : Nat} {x y : Operand} : gopK P M d ops (.binOp op t x y t2) dst ty pos after gr g e H K = ((g = true → (∀ y0, y0 ∈ (Op.operands (.binOp op t x y t2)).toList → (evA e y0).optB = true) ∧ psOp P (.binOp op t x y t2) (fun y0 => (evA e y0).un) H) ∧ K (.opt g (pvOp P (.binOp op t x y t2) (fun y0 => (evA e y0).un) H)) H) := by rw [gopK_P (op := (.binOp op t x y t2)) rfl]; simp only [gO, gE, mem_toList']
theorem psOp_unOp {op : UnOp} {t : Nat} {x : Operand} : psOp P (.unOp op t x) E H = (unS op (E x)) := rfl
theorem pvOp_unOp {op : UnOp} {t : Nat} {x : Operand} : pvOp P (.unOp op t x) E H = (unV op (E x)) := rfl
theorem gopK_unOp {op : UnOp} {t : Nat} {x : Operand} : gopK P M d ops (.unOp op t x) dst ty pos after gr g e H K = ((g = true → (∀ y0, y0 ∈ (Op.operands (.unOp op t x)).toList → (evA e y0).optB = true) ∧ psOp P (.unOp op t x) (fun y0 => (evA e y0).un) H) ∧ K (.opt g (pvOp P (.unOp op t x) (fun y0 => (evA e y0).un) H)) H) := by rw [gopK_P (op := (.unOp op t x)) rfl]; simp only [gO, gE, mem_toList']
theorem psOp_convert {s t : Nat} {x : Operand} : psOp P (.convert s t x) E H = (cvS P s t (E x)) := rfl
theorem pvOp_convert {s t : Nat} {x : Operand} : pvOp P (.convert s t x) E H = (cvV P s t (E x)) := rfl
theorem gopK_convert {s t : Nat} {x : Operand} : gopK P M d ops (.convert s t x) dst ty pos after gr g e H K = ((g = true → (∀ y0, y0 ∈ (Op.operands (.convert s t x)).toList → (evA e y0).optB = true) ∧ psOp P (.convert s t x) (fun y0 => (evA e y0).un) H) ∧ K (.opt g (pvOp P (.convert s t x) (fun y0 => (evA e y0).un) H)) H) := by rw [gopK_P (op := (.convert s t x)) rfl]; simp only [gO, gE, mem_toList']
theorem psOp_load {t : Nat} {x : Operand} : psOp P (.load t x) E H = (ldpS P t (E x) H) := rfl
theorem pvOp_load {t : Nat} {x : Operand} : pvOp P (.load t x) E H = (ldpV P t (E x) H) := rfl
theorem gopK_load {t : Nat} {x : Operand} : gopK P M d ops (.load t x) dst ty pos after gr g e H K = ((g = true → (∀ y0, y0 ∈ (Op.operands (.load t x)).toList → (evA e y0).optB = true) ∧ psOp P (.load t x) (fun y0 => (evA e y0).un) H) ∧ K (.opt g (pvOp P (.load t x) (fun y0 => (evA e y0).un) H)) H) := by rw [gopK_P (op := (.load t x)) rfl]; simp only [gO, gE, mem_toList']
theorem psOp_fieldAddr {s f : Nat} {x : Operand} : psOp P (.fieldAddr s x f) E H = (faS P s (E x) f) := rfl
theorem pvOp_fieldAddr {s f : Nat} {x : Operand} : pvOp P (.fieldAddr s x f) E H = (faV P s (E x) f) := rfl
theorem gopK_fieldAddr {s f : Nat} {x : Operand} : gopK P M d ops (.fieldAddr s x f) dst ty pos after gr g e H K = ((g = true → (∀ y0, y0 ∈ (Op.operands (.fieldAddr s x f)).toList → (evA e y0).optB = true) ∧ psOp P (.fieldAddr s x f) (fun y0 => (evA e y0).un) H) ∧ K (.opt g (pvOp P (.fieldAddr s x f) (fun y0 => (evA e y0).un) H)) H) := by rw [gopK_P (op := (.fieldAddr s x f)) rfl]; simp only [gO, gE, mem_toList']
theorem psOp_field {s f : Nat} {x : Operand} : psOp P (.field s x f) E H = (fdS P s (E x) f) := rfl
theorem pvOp_field {s f : Nat} {x : Operand} : pvOp P (.field s x f) E H = (fdV P s (E x) f) := rfl
theorem gopK_field {s f : Nat} {x : Operand} : gopK P M d ops (.field s x f) dst ty pos after gr g e H K = ((g = true → (∀ y0, y0 ∈ (Op.operands (.field s x f)).toList → (evA e y0).optB = true) ∧ psOp P (.field s x f) (fun y0 => (evA e y0).un) H) ∧ K (.opt g (pvOp P (.field s x f) (fun y0 => (evA e y0).un) H)) H) := by rw [gopK_P (op := (.field s x f)) rfl]; simp only [gO, gE, mem_toList']
theorem psOp_indexAddr {t : Nat} {x i : Operand} : psOp P (.indexAddr t x i) E H = (iaS P t (E x) (E i)) := rfl
theorem pvOp_indexAddr {t : Nat} {x i : Operand} : pvOp P (.indexAddr t x i) E H = (iaV P t (E x) (E i)) := rfl
theorem gopK_indexAddr {t : Nat} {x i : Operand} : gopK P M d ops (.indexAddr t x i) dst ty pos after gr g e H K = ((g = true → (∀ y0, y0 ∈ (Op.operands (.indexAddr t x i)).toList → (evA e y0).optB = true) ∧ psOp P (.indexAddr t x i) (fun y0 => (evA e y0).un) H) ∧ K (.opt g (pvOp P (.indexAddr t x i) (fun y0 => (evA e y0).un) H)) H) := by rw [gopK_P (op := (.indexAddr t x i)) rfl]; simp only [gO, gE, mem_toList']
theorem psOp_index {t : Nat} {x i : Operand} : psOp P (.index t x i) E H = (ixS P t (E x) (E i)) := rfl
theorem pvOp_index {t : Nat} {x i : Operand} : pvOp P (.index t x i) E H = (ixV P t (E x) (E i)) := rfl
theorem gopK_index {t : Nat} {x i : Operand} : gopK P M d ops (.index t x i) dst ty pos after gr g e H K = ((g = true → (∀ y0, y0 ∈ (Op.operands (.index t x i)).toList → (evA e y0).optB = true) ∧ psOp P (.index t x i) (fun y0 => (evA e y0).un) H) ∧ K (.opt g (pvOp P (.index t x i) (fun y0 => (evA e y0).un) H)) H) := by rw [gopK_P (op := (.index t x i)) rfl]; simp only [gO, gE, mem_toList']
theorem psOp_slice {t : Nat} {x : Operand} {lo hi mx : Option Operand} : psOp P (.slice t x lo hi mx) E H = (slcS P t (E x) (lo.map E) (hi.map E) (mx.map E)) := rfl
theorem pvOp_slice {t : Nat} {x : Operand} {lo hi mx : Option Operand} : pvOp P (.slice t x lo hi mx) E H = (slcV (E x) (lo.map E) (hi.map E) (mx.map E)) := rfl
theorem gopK_slice {t : Nat} {x : Operand} {lo hi mx : Option Operand} : gopK P M d ops (.slice t x lo hi mx) dst ty pos after gr g e H K = ((g = true → (∀ y0, y0 ∈ (Op.operands (.slice t x lo hi mx)).toList → (evA e y0).optB = true) ∧ psOp P (.slice t x lo hi mx) (fun y0 => (evA e y0).un) H) ∧ K (.opt g (pvOp P (.slice t x lo hi mx) (fun y0 => (evA e y0).un) H)) H) := by rw [gopK_P (op := (.slice t x lo hi mx)) rfl]; simp only [gO, gE, mem_toList']
theorem psOp_extract {x : Operand} {i : Nat} : psOp P (.extract x i) E H = (exS (E x) i) := rfl
theorem pvOp_extract {x : Operand} {i : Nat} : pvOp P (.extract x i) E H = (exV (E x) i) := rfl
theorem gopK_extract {x : Operand} {i : Nat} : gopK P M d ops (.extract x i) dst ty pos after gr g e H K = ((g = true → (∀ y0, y0 ∈ (Op.operands (.extract x i)).toList → (evA e y0).optB = true) ∧ psOp P (.extract x i) (fun y0 => (evA e y0).un) H) ∧ K (.opt g (pvOp P (.extract x i) (fun y0 => (evA e y0).un) H)) H) := by rw [gopK_P (op := (.extract x i)) rfl]; simp only [gO, gE, mem_toList']
theorem psOp_build {t : Nat} {parts : Array (Nat × Operand)} : psOp P (.build t parts) E H = (bldS P t (parts.toList.map fun p => (p.1, E p.2))) := rfl
theorem pvOp_build {t : Nat} {parts : Array (Nat × Operand)} : pvOp P (.build t parts) E H = (bldV P t (parts.toList.map fun p => (p.1, E p.2))) := rfl
theorem gopK_build {t : Nat} {parts : Array (Nat × Operand)} : gopK P M d ops (.build t parts) dst ty pos after gr g e H K = ((g = true → (∀ y0, y0 ∈ (Op.operands (.build t parts)).toList → (evA e y0).optB = true) ∧ psOp P (.build t parts) (fun y0 => (evA e y0).un) H) ∧ K (.opt g (pvOp P (.build t parts) (fun y0 => (evA e y0).un) H)) H) := by rw [gopK_P (op := (.build t parts)) rfl]; simp only [gO, gE, mem_toList']
theorem psOp_len {xs : Array Operand} {ts : Array TypeId} : psOp P (.call { callee := .builtin .len, args := xs, argTypes := ts }) E H = (biS P .len ts (xs.toList.map E)) := rfl
theorem pvOp_len {xs : Array Operand} {ts : Array TypeId} : pvOp P (.call { callee := .builtin .len, args := xs, argTypes := ts }) E H = (biV .len (xs.toList.map E)) := rfl
theorem gopK_len {xs : Array Operand} {ts : Array TypeId} : gopK P M d ops (.call { callee := .builtin .len, args := xs, argTypes := ts }) dst ty pos after gr g e H K = ((g = true → (∀ y0, y0 ∈ (Op.operands (.call { callee := .builtin .len, args := xs, argTypes := ts })).toList → (evA e y0).optB = true) ∧ psOp P (.call { callee := .builtin .len, args := xs, argTypes := ts }) (fun y0 => (evA e y0).un) H) ∧ K (.opt g (pvOp P (.call { callee := .builtin .len, args := xs, argTypes := ts }) (fun y0 => (evA e y0).un) H)) H) := by rw [gopK_P (op := (.call { callee := .builtin .len, args := xs, argTypes := ts })) rfl]; simp only [gO, gE, mem_toList']
theorem psOp_min {xs : Array Operand} {ts : Array TypeId} : psOp P (.call { callee := .builtin .min, args := xs, argTypes := ts }) E H = (biS P .min ts (xs.toList.map E)) := rfl
theorem pvOp_min {xs : Array Operand} {ts : Array TypeId} : pvOp P (.call { callee := .builtin .min, args := xs, argTypes := ts }) E H = (biV .min (xs.toList.map E)) := rfl
theorem gopK_min {xs : Array Operand} {ts : Array TypeId} : gopK P M d ops (.call { callee := .builtin .min, args := xs, argTypes := ts }) dst ty pos after gr g e H K = ((g = true → (∀ y0, y0 ∈ (Op.operands (.call { callee := .builtin .min, args := xs, argTypes := ts })).toList → (evA e y0).optB = true) ∧ psOp P (.call { callee := .builtin .min, args := xs, argTypes := ts }) (fun y0 => (evA e y0).un) H) ∧ K (.opt g (pvOp P (.call { callee := .builtin .min, args := xs, argTypes := ts }) (fun y0 => (evA e y0).un) H)) H) := by rw [gopK_P (op := (.call { callee := .builtin .min, args := xs, argTypes := ts })) rfl]; simp only [gO, gE, mem_toList']
theorem psOp_max {xs : Array Operand} {ts : Array TypeId} : psOp P (.call { callee := .builtin .max, args := xs, argTypes := ts }) E H = (biS P .max ts (xs.toList.map E)) := rfl
theorem pvOp_max {xs : Array Operand} {ts : Array TypeId} : pvOp P (.call { callee := .builtin .max, args := xs, argTypes := ts }) E H = (biV .max (xs.toList.map E)) := rfl
theorem gopK_max {xs : Array Operand} {ts : Array TypeId} : gopK P M d ops (.call { callee := .builtin .max, args := xs, argTypes := ts }) dst ty pos after gr g e H K = ((g = true → (∀ y0, y0 ∈ (Op.operands (.call { callee := .builtin .max, args := xs, argTypes := ts })).toList → (evA e y0).optB = true) ∧ psOp P (.call { callee := .builtin .max, args := xs, argTypes := ts }) (fun y0 => (evA e y0).un) H) ∧ K (.opt g (pvOp P (.call { callee := .builtin .max, args := xs, argTypes := ts }) (fun y0 => (evA e y0).un) H)) H) := by rw [gopK_P (op := (.call { callee := .builtin .max, args := xs, argTypes := ts })) rfl]; simp only [gO, gE, mem_toList']
theorem gopK_buildSlice {t n : Nat} {parts : Array (Nat × Operand)} : gopK P M d ops (.buildSlice t n parts) dst ty pos after gr g e H K = ((g = true → (∀ y0, y0 ∈ (Op.operands (.buildSlice t n parts)).toList → (evA e y0).optB = true) ∧ vcOp P M d ⟨dst, (.buildSlice t n parts), ty, pos, after, gr⟩ (fun y0 => (evA e y0).un) H K) ∧ (g = false → K (.tup []) H)) := _root_.id rfl
theorem gopK_box {t : Nat} {x : Operand} : gopK P M d ops (.box t x) dst ty pos after gr g e H K = ((g = true → (∀ y0, y0 ∈ (Op.operands (.box t x)).toList → (evA e y0).optB = true) ∧ vcOp P M d ⟨dst, (.box t x), ty, pos, after, gr⟩ (fun y0 => (evA e y0).un) H K) ∧ (g = false → K (.tup []) H)) := _root_.id rfl
theorem gopK_makeFunc {fn : Fn} {first captured : Array Operand} : gopK P M d ops (.makeFunc fn first captured) dst ty pos after gr g e H K = ((g = true → (∀ y0, y0 ∈ (Op.operands (.makeFunc fn first captured)).toList → (evA e y0).optB = true) ∧ vcOp P M d ⟨dst, (.makeFunc fn first captured), ty, pos, after, gr⟩ (fun y0 => (evA e y0).un) H K) ∧ (g = false → K (.tup []) H)) := _root_.id rfl
theorem gopK_alloc {t : Nat} : gopK P M d ops (.alloc t) dst ty pos after gr g e H K = ((g = true → (∀ y0, y0 ∈ (Op.operands (.alloc t)).toList → (evA e y0).optB = true) ∧ vcOp P M d ⟨dst, (.alloc t), ty, pos, after, gr⟩ (fun y0 => (evA e y0).un) H K) ∧ (g = false → K (.tup []) H)) := _root_.id rfl
theorem gopK_store {t : Nat} {a x : Operand} : gopK P M d ops (.store t a x) dst ty pos after gr g e H K = ((g = true → (∀ y0, y0 ∈ (Op.operands (.store t a x)).toList → (evA e y0).optB = true) ∧ vcOp P M d ⟨dst, (.store t a x), ty, pos, after, gr⟩ (fun y0 => (evA e y0).un) H K) ∧ (g = false → K (.tup []) H)) := _root_.id rfl
theorem gopK_append {x y : Operand} {t t' : TypeId} : gopK P M d ops (.call { callee := .builtin .append, args := #[x, y], argTypes := #[t, t'] }) dst ty pos after gr g e H K = ((g = true → (∀ y0, y0 ∈ (Op.operands (.call { callee := .builtin .append, args := #[x, y], argTypes := #[t, t'] })).toList → (evA e y0).optB = true) ∧ vcOp P M d ⟨dst, (.call { callee := .builtin .append, args := #[x, y], argTypes := #[t, t'] }), ty, pos, after, gr⟩ (fun y0 => (evA e y0).un) H K) ∧ (g = false → K (.tup []) H)) := _root_.id rfl
theorem gopK_copy {x y : Operand} {t t' : TypeId} : gopK P M d ops (.call { callee := .builtin .copy, args := #[x, y], argTypes := #[t, t'] }) dst ty pos after gr g e H K = ((g = true → (∀ y0, y0 ∈ (Op.operands (.call { callee := .builtin .copy, args := #[x, y], argTypes := #[t, t'] })).toList → (evA e y0).optB = true) ∧ vcOp P M d ⟨dst, (.call { callee := .builtin .copy, args := #[x, y], argTypes := #[t, t'] }), ty, pos, after, gr⟩ (fun y0 => (evA e y0).un) H K) ∧ (g = false → K (.tup []) H)) := _root_.id rfl
theorem gopK_clear {x : Operand} {t : TypeId} : gopK P M d ops (.call { callee := .builtin .clear, args := #[x], argTypes := #[t] }) dst ty pos after gr g e H K = ((g = true → (∀ y0, y0 ∈ (Op.operands (.call { callee := .builtin .clear, args := #[x], argTypes := #[t] })).toList → (evA e y0).optB = true) ∧ vcOp P M d ⟨dst, (.call { callee := .builtin .clear, args := #[x], argTypes := #[t] }), ty, pos, after, gr⟩ (fun y0 => (evA e y0).un) H K) ∧ (g = false → K (.tup []) H)) := _root_.id rfl
theorem gopK_makeSlice {t : Nat} {l c : Operand} : gopK P M d ops (.makeSlice t l c) dst ty pos after gr g e H K = ((g = true → (∀ y0, y0 ∈ (Op.operands (.makeSlice t l c)).toList → (evA e y0).optB = true) ∧ vcOp P M d ⟨dst, (.makeSlice t l c), ty, pos, after, gr⟩ (fun y0 => (evA e y0).un) H K) ∧ (g = false → K (.tup []) H)) := _root_.id rfl
theorem gopK_lookup {t : Nat} {m k : Operand} {ok : Bool} : gopK P M d ops (.lookup t m k ok) dst ty pos after gr g e H K = ((g = true → (∀ y0, y0 ∈ (Op.operands (.lookup t m k ok)).toList → (evA e y0).optB = true) ∧ vcOp P M d ⟨dst, (.lookup t m k ok), ty, pos, after, gr⟩ (fun y0 => (evA e y0).un) H K) ∧ (g = false → K (.tup []) H)) := _root_.id rfl
theorem gopK_mapUpdate {t : Nat} {m k x : Operand} : gopK P M d ops (.mapUpdate t m k x) dst ty pos after gr g e H K = ((g = true → (∀ y0, y0 ∈ (Op.operands (.mapUpdate t m k x)).toList → (evA e y0).optB = true) ∧ vcOp P M d ⟨dst, (.mapUpdate t m k x), ty, pos, after, gr⟩ (fun y0 => (evA e y0).un) H K) ∧ (g = false → K (.tup []) H)) := _root_.id rfl
theorem gopK_insert {t : Nat} {m k x : Operand} : gopK P M d ops (.insert t m k x) dst ty pos after gr g e H K = ((g = true → (∀ y0, y0 ∈ (Op.operands (.insert t m k x)).toList → (evA e y0).optB = true) ∧ vcOp P M d ⟨dst, (.insert t m k x), ty, pos, after, gr⟩ (fun y0 => (evA e y0).un) H K) ∧ (g = false → K (.tup []) H)) := _root_.id rfl
theorem gopK_mapEntry {t : Nat} {m k : Operand} : gopK P M d ops (.mapEntry t m k) dst ty pos after gr g e H K = ((g = true → (∀ y0, y0 ∈ (Op.operands (.mapEntry t m k)).toList → (evA e y0).optB = true) ∧ vcOp P M d ⟨dst, (.mapEntry t m k), ty, pos, after, gr⟩ (fun y0 => (evA e y0).un) H K) ∧ (g = false → K (.tup []) H)) := _root_.id rfl
theorem gopK_entryStore {t : Nat} {m s x : Operand} : gopK P M d ops (.entryStore t m s x) dst ty pos after gr g e H K = ((g = true → (∀ y0, y0 ∈ (Op.operands (.entryStore t m s x)).toList → (evA e y0).optB = true) ∧ vcOp P M d ⟨dst, (.entryStore t m s x), ty, pos, after, gr⟩ (fun y0 => (evA e y0).un) H K) ∧ (g = false → K (.tup []) H)) := _root_.id rfl
end
attribute [congr] optK_congr GTK_congr gcallK_congr gopK_congr
attribute [simp] optK_some gcallK_fn vcG_some gopK_call gb Op.operands Call.operands psOp_move pvOp_move gopK_move psOp_assign pvOp_assign gopK_assign psOp_nilCheck pvOp_nilCheck gopK_nilCheck psOp_pick pvOp_pick gopK_pick psOp_binOp pvOp_binOp gopK_binOp psOp_unOp pvOp_unOp gopK_unOp psOp_convert pvOp_convert gopK_convert psOp_load pvOp_load gopK_load psOp_fieldAddr pvOp_fieldAddr gopK_fieldAddr psOp_field pvOp_field gopK_field psOp_indexAddr pvOp_indexAddr gopK_indexAddr psOp_index pvOp_index gopK_index psOp_slice pvOp_slice gopK_slice psOp_extract pvOp_extract gopK_extract psOp_build pvOp_build gopK_build psOp_len pvOp_len gopK_len psOp_min pvOp_min gopK_min psOp_max pvOp_max gopK_max gopK_buildSlice gopK_box gopK_makeFunc gopK_alloc gopK_store gopK_append gopK_copy gopK_clear gopK_makeSlice gopK_lookup gopK_mapUpdate gopK_insert gopK_mapEntry gopK_entryStore
attribute [simp] bldV bldS fillA bslV bslS repeatA regroup
@[simp] theorem int_beq {a b : Int} : (a == b) = decide (a = b) := by rw [Bool.eq_iff_iff]; simp
@[simp] theorem int_bne {a b : Int} : (a != b) = !decide (a = b) := by rw [Bool.eq_iff_iff]; simp
end Go.Proofs.YtjplcdeaedflpaaGreatDoor.PL

namespace Go.Proofs.YtjplcdeaedflpaaGreatDoor.PL
open Go.RowKit

/-! ### two structs of numbers, texts and truths -/
inductive Tag where
  | int | str | bool | other
  deriving DecidableEq
def AV.tag : AV → Tag
  | .int _ _ => .int
  | .str _ => .str
  | .bool _ => .bool
  | _ => .other
def tagFits (P : Program) (t : TypeId) (g : Tag) : Bool :=
  match g, P.underlying t with
  | .int, some (.int _) => true
  | .str, some .string => true
  | .bool, some .bool => true
  | _, _ => false
def tagsFit (P : Program) : List Field → Nat → List Tag → Bool
  | [], _, [] => true
  | f :: fs, o, g :: gs => f.offset == o && !(f.name == "_") && tagFits P f.type g && (aggOf P f.type == some false) && tagsFit P fs (o + 1) gs
  | _, _, _ => false
def flatB (P : Program) (t : TypeId) (gs : List Tag) : Bool :=
  match P.underlying t with
  | some (.struct fs) => !(P.stoodInHeld t) && !(P.eqGuardType P.depth t) && tagsFit P fs.toList 0 gs
  | _ => false

theorem eqOne {P : Program} {d t : Nat} {g : Tag} {x y : AV} {v u : Value} {Γ : Gh} {w : World} (hg : tagFits P t g = true) (hx : x.tag = g) (hy : y.tag = g) (hk : ∀ k a l b, x = .int k a → y = .int l b → k = l) (rx : VR Γ x v) (ry : VR Γ y u) :
    (Op.equalIn (d + 1) t v u).run P w = .ok (eqCells [x] [y]) w := by
  cases g with
  | int =>
    cases x <;> simp [AV.tag] at hx
    cases y <;> simp [AV.tag] at hy
    cases rx; cases ry
    obtain rfl := hk _ _ _ _ rfl rfl
    unfold tagFits at hg
    cases hu : P.underlying t with
    | none => simp [hu] at hg
    | some d' =>
      cases d' <;> simp [hu] at hg
      simp [run_equalIn_int (P := P) w d t _ _ _ _ hu, eqCells]
  | str =>
    cases x <;> simp [AV.tag] at hx
    cases y <;> simp [AV.tag] at hy
    cases rx; cases ry
    unfold tagFits at hg
    cases hu : P.underlying t with
    | none => simp [hu] at hg
    | some d' =>
      cases d' <;> simp [hu] at hg
      simp [run_equalIn_string (P := P) w d t _ _ hu, eqCells]
  | bool =>
    cases x <;> simp [AV.tag] at hx
    cases y <;> simp [AV.tag] at hy
    cases rx; cases ry
    unfold tagFits at hg
    cases hu : P.underlying t with
    | none => simp [hu] at hg
    | some d' =>
      cases d' <;> simp [hu] at hg
      simp [run_equalIn_bool' (P := P) w d t _ _ hu, eqCells]
  | other => simp [tagFits] at hg

/-- numbers of one kind -/
def kindsFit : List AV → List AV → Prop
  | .int k _ :: xs, .int l _ :: ys => k = l ∧ kindsFit xs ys
  | _ :: xs, _ :: ys => kindsFit xs ys
  | _, _ => True
theorem kindsFit.head {x y : AV} {xs ys : List AV} (h : kindsFit (x :: xs) (y :: ys)) : (∀ k a l b, x = .int k a → y = .int l b → k = l) ∧ kindsFit xs ys := by
  cases x <;> cases y <;> simp_all [kindsFit] <;> (try (rintro k a l b rfl rfl rfl rfl; exact h.1))

theorem eqCells_cons {g : Tag} {x y : AV} {xs ys : List AV} (hx : x.tag = g) (hy : y.tag = g) (hg : g ≠ .other) : eqCells (x :: xs) (y :: ys) = (eqCells [x] [y] && eqCells xs ys) := by
  cases x <;> cases y <;> subst hx <;> simp_all [AV.tag, eqCells]

theorem run_eqf {P : Program} {Γ : Gh} {w : World} {xs ys : Array Value} {d : Nat} : ∀ {fs : List Field} {o : Nat} {gs : List Tag} {cs ds : List AV}, tagsFit P fs o gs = true → cs.map AV.tag = gs → ds.map AV.tag = gs → kindsFit cs ds →
    (∀ i x, cs[i]? = some x → ∃ v, xs[o + i]? = some v ∧ VR Γ x v) → (∀ i y, ds[i]? = some y → ∃ v, ys[o + i]? = some v ∧ VR Γ y v) →
    (Op.eqFields (d + 1) xs ys fs).run P w = .ok (eqCells cs ds) w := by
  intro fs
  induction fs with
  | nil =>
    intro o gs cs ds h hc hd hk hx hy
    cases gs with
    | cons => simp [tagsFit] at h
    | nil =>
      cases cs with
      | cons => simp at hc
      | nil => simp [Op.eqFields, eqCells]
  | cons f fs ih =>
    intro o gs cs ds h hc hd hk hx hy
    cases gs with
    | nil => simp [tagsFit] at h
    | cons g gs =>
      cases cs with
      | nil => simp at hc
      | cons c cs =>
        cases ds with
        | nil => simp at hd
        | cons e ds =>
          simp only [tagsFit, Bool.and_eq_true, beq_iff_eq, Bool.not_eq_true', beq_eq_false_iff_ne] at h
          obtain ⟨⟨⟨⟨h1, h2⟩, h3⟩, h4⟩, h5⟩ := h
          simp only [List.map_cons, List.cons.injEq] at hc hd
          obtain ⟨v, hv, rv⟩ := hx 0 c rfl
          obtain ⟨u, hu, ru⟩ := hy 0 e rfl
          have hk2 := hk.head
          have e1 : (part f.type xs f.offset).run P w = .ok v w := run_part_one h4 (by rw [h1]; simpa using hv) w
          have e2 : (part f.type ys f.offset).run P w = .ok u w := run_part_one h4 (by rw [h1]; simpa using hu) w
          have e3 := eqOne (P := P) (d := d) (w := w) h3 hc.1 hd.1 hk2.1 rv ru
          have e4 := ih (o := o + 1) h5 hc.2 hd.2 hk2.2 (fun i x hi => by have := hx (i + 1) x (by simpa using hi); rwa [show o + 1 + i = o + (i + 1) by omega]) (fun i x hi => by have := hy (i + 1) x (by simpa using hi); rwa [show o + 1 + i = o + (i + 1) by omega])
          rw [eqCells_cons hc.1 hd.1 (by rintro rfl; simp [tagFits] at h3)]
          rw [Op.eqFields]
          simp only [if_pos h2, Sem.run_bind, e1, e2, e3, Result.andThen_ok]
          cases eqCells [c] [e] with
          | true => simpa using e4
          | false => simp

theorem EqT.flat {P : Program} {t : TypeId} (gs : List Tag) {cs ds : List AV} (h : flatB P t gs = true) (hc : cs.map AV.tag = gs) (hd : ds.map AV.tag = gs) (hk : kindsFit cs ds) : EqT P t cs ds := by
  intro Γ vs us w hv hu
  unfold flatB at h
  split at h
  · rename_i fs hfs
    simp only [Bool.and_eq_true, Bool.not_eq_true'] at h
    refine ⟨fun op x y => run_eqGuard_agg w op t x y _ _ h.1.2, ?_⟩
    have hf : P.fieldsOf t = fs := by simp [Program.fieldsOf, hfs]
    have := run_equalIn_struct (P := P) w 9999 t vs.toArray us.toArray (by rw [hf]; exact hfs) h.1.1
    rw [show (Op.equal t (.agg vs.toArray) (.agg us.toArray)) = Op.equalIn (9999 + 1) t (.agg vs.toArray) (.agg us.toArray) from rfl, this, hf]
    refine run_eqf (P := P) (Γ := Γ) (d := 9998) h.2 hc hd hk ?_ ?_
    · intro i x hx
      obtain ⟨v, h1, h2⟩ := hv.get i x hx
      exact ⟨v, by simpa using h1, h2⟩
    · intro i x hx
      obtain ⟨v, h1, h2⟩ := hu.get i x hx
      exact ⟨v, by simpa using h1, h2⟩
  · cases h

@[simp] theorem eqCells_int {k l : IntKind} {a b : Int} {xs ys : List AV} : eqCells (.int k a :: xs) (.int l b :: ys) = (a == b && eqCells xs ys) := rfl
@[simp] theorem eqCells_str {a b : ByteArray} {xs ys : List AV} : eqCells (.str a :: xs) (.str b :: ys) = (a.toList == b.toList && eqCells xs ys) := rfl
@[simp] theorem eqCells_bool {a b : Bool} {xs ys : List AV} : eqCells (.bool a :: xs) (.bool b :: ys) = (a == b && eqCells xs ys) := rfl
@[simp] theorem eqCells_nil : eqCells [] [] = true := rfl
theorem toList_inj {a b : ByteArray} : a.toList = b.toList ↔ a = b := by
  refine ⟨fun h => ?_, fun h => by rw [h]⟩
  rw [ByteArray.toList_eq, ByteArray.toList_eq] at h
  cases a; cases b
  simp only [ByteArray.mk.injEq]
  exact Array.toList_inj.1 h
@[simp] theorem toList_beq {a b : ByteArray} : (a.toList == b.toList) = decide (a = b) := by
  rw [Bool.eq_iff_iff]; simp [toList_inj]
end Go.Proofs.YtjplcdeaedflpaaGreatDoor.PL

namespace Go.Proofs.YtjplcdeaedflpaaGreatDoor.PL
open Go.RowKit

/-! ### what came in, by its type -/
def ftOf (P : Program) (t : TypeId) : Option (Nat × List (Nat × Nat × Nat)) :=
  match P.underlying t with
  | some (.struct fs) => some (P.cellsOf t, fs.toList.map fun f => (f.type, f.offset, P.cellsOf f.type))
  | _ => none

theorem Sh.int_of {P : Program} {t : TypeId} {cs : List AV} {k : IntKind} (h : Sh P t cs) (hu : P.underlying t = some (.int k)) : ∃ n, cs = [.int k n] ∧ (Lit.int k n).wf = true := by
  cases h with
  | int h hw => rw [hu] at h; cases h; exact ⟨_, rfl, hw⟩
  | _ => simp_all
theorem Sh.bool_of {P : Program} {t : TypeId} {cs : List AV} (h : Sh P t cs) (hu : P.underlying t = some .bool) : ∃ b, cs = [.bool b] := by
  cases h with
  | bool h => exact ⟨_, rfl⟩
  | _ => simp_all
theorem Sh.str_of {P : Program} {t : TypeId} {cs : List AV} (h : Sh P t cs) (hu : P.underlying t = some .string) : ∃ s, cs = [.str s] ∧ s.size ≤ reachBytes := by
  cases h with
  | str h hs => exact ⟨_, rfl, hs⟩
  | _ => simp_all
theorem Sh.sl_of {P : Program} {t e : TypeId} {b : Bool} {cs : List AV} (h : Sh P t cs) (hu : P.underlying t = some (.slice e)) (hb : aggOf P e = some b) :
    ∃ ys : List (List AV), cs = [.sl .no (ys.map (mkAV b))] ∧ (∀ y, y ∈ ys → Sh P e y) ∧ ys.length * P.bytesOf e ≤ reachBytes := by
  cases h with
  | sl h hb' hy hl => rw [hu] at h; cases h; rw [hb] at hb'; cases hb'; exact ⟨_, rfl, hy, hl⟩
  | _ => simp_all
theorem Sh.struct_of {P : Program} {t : TypeId} {n : Nat} {l : List (Nat × Nat × Nat)} {cs : List AV} (h : Sh P t cs) (hu : ftOf P t = some (n, l)) :
    cs.length = n ∧ ∀ x, x ∈ l → Sh P x.1 ((cs.drop x.2.1).take x.2.2) := by
  unfold ftOf at hu
  cases h with
  | struct h hl hf =>
    rw [h] at hu
    simp only [Option.some.injEq, Prod.mk.injEq] at hu
    obtain ⟨rfl, rfl⟩ := hu
    refine ⟨hl, fun x hx => ?_⟩
    obtain ⟨f, h1, rfl⟩ := List.mem_map.1 hx
    exact hf f h1
  | _ => simp_all

theorem i64_wf {n : Int} (h : (Lit.int .i64 n).wf = true) : -9223372036854775808 ≤ n ∧ n < 9223372036854775808 := by
  simp [Lit.wf, IntKind.min, IntKind.max, IntKind.signed, IntKind.bits] at h
  omega
theorem u64_wf {n : Int} (h : (Lit.int .u64 n).wf = true) : 0 ≤ n ∧ n < 18446744073709551616 := by
  simp [Lit.wf, IntKind.min, IntKind.max, IntKind.signed, IntKind.bits] at h
  omega
theorem u8_wf {n : Int} (h : (Lit.int .u8 n).wf = true) : 0 ≤ n ∧ n < 256 := by
  simp [Lit.wf, IntKind.min, IntKind.max, IntKind.signed, IntKind.bits] at h
  omega

theorem list_in {α : Type} {f : α → AV} {g : List AV → AV} {Q : α → Prop} : ∀ {ys : List (List AV)}, (∀ y, y ∈ ys → ∃ a, g y = f a ∧ Q a) → ∃ l : List α, ys.map g = l.map f ∧ l.length = ys.length ∧ ∀ a, a ∈ l → Q a
  | [], _ => ⟨[], rfl, rfl, fun a h => by cases h⟩
  | y :: ys, h => by
    obtain ⟨l, h1, h2, h3⟩ := list_in (ys := ys) fun y hy => h y (List.mem_cons_of_mem _ hy)
    obtain ⟨a, h4, h5⟩ := h y (List.mem_cons_self ..)
    refine ⟨a :: l, by simp [h1, h4], by simp [h2], fun b hb => ?_⟩
    rcases List.mem_cons.1 hb with rfl | hb
    · exact h5
    · exact h3 b hb

theorem ShA.cons_of {P : Program} {t : TypeId} {ts : List TypeId} {b : Bool} {xs : List AV} (h : ShA P (t :: ts) xs) (hb : aggOf P t = some b) : ∃ ys xs', xs = mkAV b ys :: xs' ∧ Sh P t ys ∧ ShA P ts xs' := by
  cases h with
  | cons hb' h r => rw [hb] at hb'; cases hb'; exact ⟨_, _, rfl, h, r⟩
theorem ShA.nil_of {P : Program} {xs : List AV} (h : ShA P [] xs) : xs = [] := by cases h; rfl
end Go.Proofs.YtjplcdeaedflpaaGreatDoor.PL

namespace Go.Proofs.YtjplcdeaedflpaaGreatDoor.PL
open Go.RowKit

@[simp] theorem toList_isEmpty {a : ByteArray} : a.toList.isEmpty = decide (a.size = 0) := by
  rw [Bool.eq_iff_iff, List.isEmpty_iff, ← List.length_eq_zero_iff, toList_length]; simp
@[simp] theorem toList_eq_nil {a : ByteArray} : a.toList = [] ↔ a.size = 0 := by
  rw [← List.length_eq_zero_iff, toList_length]
attribute [simp] cvV cvS
@[simp] theorem mk_empty : (⟨#[]⟩ : ByteArray) = ByteArray.empty := rfl
@[simp] theorem toList_empty : ByteArray.empty.toList = [] := by simp
end Go.Proofs.YtjplcdeaedflpaaGreatDoor.PL

namespace Go.Proofs.YtjplcdeaedflpaaGreatDoor.PL
open Go.RowKit

/-! ### a loop of so many rounds -/
def rnds (P : Program) (M : List Nat) (c : Code) (Q : Ex → Env → List HO → Prop) : Nat → Env → List HO → Prop
  | 0, _, _ => False
  | n + 1, e, H => rnds P M c Q n e H ∨ vc P M c (loopK Q (rnds P M c Q n)) e H
theorem rnds_iff {P : Program} {M : List Nat} {c : Code} {Q : Ex → Env → List HO → Prop} : ∀ {n : Nat} {e : Env} {H : List HO}, rnds P M c Q n e H ↔ ∃ m, m < n ∧ vc P M c (loopK Q (rnds P M c Q m)) e H
  | 0, e, H => by simp [rnds]
  | n + 1, e, H => by
    rw [rnds, rnds_iff]
    constructor
    · rintro (⟨m, h1, h2⟩ | h)
      · exact ⟨m, by omega, h2⟩
      · exact ⟨n, by omega, h⟩
    · rintro ⟨m, h1, h2⟩
      by_cases e : m = n
      · subst e; exact .inr h2
      · exact .inl ⟨m, by omega, h2⟩
theorem vc_rnds {P : Program} {M : List Nat} {c : Code} {Q : Ex → Env → List HO → Prop} {e : Env} {H : List HO} (n : Nat) (h : vc P M c (loopK Q (rnds P M c Q n)) e H) : vc P M (.loop c) Q e H := by
  refine ⟨fun n e H => vc P M c (loopK Q (rnds P M c Q n)) e H, ⟨n, h⟩, ?_⟩
  intro n e H hn
  have : (loopK Q (rnds P M c Q n)) = (fun x e' H' => match x with | .normal => ∃ m, m < n ∧ vc P M c (loopK Q (rnds P M c Q m)) e' H' | x => Q x e' H') := by
    funext x e' H'
    cases x with
    | normal => exact propext rnds_iff
    | _ => rfl
  rw [this] at hn
  exact hn
/-- one round more -/
theorem rnds.next {P : Program} {M : List Nat} {c : Code} {Q : Ex → Env → List HO → Prop} {n : Nat} {e : Env} {H : List HO} (h : vc P M c (loopK Q (rnds P M c Q n)) e H) : rnds P M c Q (n + 1) e H := .inr h

@[simp] theorem wrap_i64_lit {n : Nat} (h : n < 9223372036854775808) : IntKind.wrap .i64 (no_index (@OfNat.ofNat Int n instOfNat)) = @OfNat.ofNat Int n instOfNat := by
  apply wrap_i64
  · have : (0 : Int) ≤ (n : Int) := by omega
    show -9223372036854775808 ≤ (n : Int)
    omega
  · show (n : Int) < 9223372036854775808
    omega
@[simp] theorem wrap_i64_neg {n : Nat} (h : n ≤ 9223372036854775808) : IntKind.wrap .i64 (-(no_index (@OfNat.ofNat Int n instOfNat))) = -(@OfNat.ofNat Int n instOfNat) := by
  apply wrap_i64
  · show -9223372036854775808 ≤ -(n : Int)
    omega
  · show -(n : Int) < 9223372036854775808
    omega
theorem wrap_u64 {n : Int} (h : 0 ≤ n) (h' : n < 18446744073709551616) : IntKind.wrap .u64 n = n := by
  unfold IntKind.wrap; simp [IntKind.signed, IntKind.bits]; omega
theorem wrap_u8 {n : Int} (h : 0 ≤ n) (h' : n < 256) : IntKind.wrap .u8 n = n := by
  unfold IntKind.wrap; simp [IntKind.signed, IntKind.bits]; omega
@[simp] theorem wrap_u64_lit {n : Nat} (h : n < 18446744073709551616) : IntKind.wrap .u64 (no_index (@OfNat.ofNat Int n instOfNat)) = @OfNat.ofNat Int n instOfNat := by
  apply wrap_u64
  · show 0 ≤ (n : Int)
    omega
  · show (n : Int) < 18446744073709551616
    omega
@[simp] theorem wrap_u8_lit {n : Nat} (h : n < 256) : IntKind.wrap .u8 (no_index (@OfNat.ofNat Int n instOfNat)) = @OfNat.ofNat Int n instOfNat := by
  apply wrap_u8
  · show 0 ≤ (n : Int)
    omega
  · show (n : Int) < 256
    omega
@[simp] theorem maxLen_lit : maxLen = 9223372036854775807 := rfl
@[simp] theorem bits_u64 : IntKind.u64.bits = 64 := rfl
@[simp] theorem bits_i64 : IntKind.i64.bits = 64 := rfl
end Go.Proofs.YtjplcdeaedflpaaGreatDoor.PL

namespace Go.Proofs.YtjplcdeaedflpaaGreatDoor.PL
open Go.RowKit

/-! ### a slice that grows in a loop -/
/-- x is the slice of xs, and may be appended to. -/
def Grow (sz : Nat) (H : List HO) (x : AV) (xs : List AV) : Prop := x = .sl .exact xs ∨ ∃ t, x = .sl (.tok t) xs ∧ H[t]? = some (.spare xs.length sz)
theorem Grow.nil {sz : Nat} {H : List HO} : Grow sz H (.sl .exact []) [] := .inl rfl
theorem Grow.exact {sz : Nat} {H : List HO} {xs : List AV} : Grow sz H (.sl .exact xs) xs := .inl rfl
theorem Grow.new {sz : Nat} {H : List HO} {xs : List AV} {n : Nat} (h : n = xs.length) : Grow sz (H ++ [.spare n sz]) (.sl (.tok H.length) xs) xs := .inr ⟨_, rfl, by subst h; simp⟩
theorem Grow.set {sz : Nat} {H : List HO} {xs : List AV} {t n : Nat} {o : HO} (ht : H[t]? = some o) (h : n = xs.length) : Grow sz (H.set t (.spare n sz)) (.sl (.tok t) xs) xs :=
  .inr ⟨t, rfl, by subst h; rw [List.getElem?_set_self (List.getElem?_eq_some_iff.1 ht).1]⟩
theorem Grow.own {sz : Nat} {H : List HO} {x : AV} {xs : List AV} (h : Grow sz H x xs) : ∃ own, x = .sl own xs := by
  rcases h with h | ⟨t, h, _⟩
  · exact ⟨_, h⟩
  · exact ⟨_, h⟩

/-! ### appended to what has no room -/
def ownAt (m k : Nat) : Own := if m = 0 then .exact else .tok k
def appJ (n m sz : Nat) : List HO := if m = 0 then [] else [.spare (n + m) sz]
def appK (m n' m' sz : Nat) : List HO := if m = 0 ∧ m' = 0 then [] else [.spare (n' + m') sz]
section
variable {m n n' m' k q p sz i : Nat} {H L : List HO} {x : HO}
@[simp] theorem ex_ownAt {xs : List AV} : (AV.sl (ownAt m k) xs).ex = .sl (ownAt m k) xs := by unfold ownAt; split <;> rfl
section
variable {P : Program} {t t' : TypeId} {b : Bool} {own own' : Own} {xs ys : List AV} {y : AV} {id off len : Nat}
@[simp] theorem appS_false : appS P t t' false (.sl own xs) (.sl own' ys) H = (appT P t t' xs.length ys.length (szA P t) ∧ (∀ a, a ∈ xs → a.cells.length = szA P t) ∧ (∀ a, a ∈ ys → a.cells.length = szA P t) ∧ appOk own xs.length ys.length (szA P t) H) := by
  cases own with
  | exact => simp [appS, appOk]
  | _ => rfl
@[simp] theorem appV_false : appV P t false (.sl own xs) (.sl own' ys) H = .sl (appOwn own ys.length H) (xs ++ ys) := by cases own <;> rfl
@[simp] theorem appH_false : appH P t false (.sl own xs) (.sl own' ys) H = appHo own xs.length ys.length (szA P t) H := by cases own <;> rfl
@[simp] theorem appS_true : appS P t t' true (.sl .exact xs) y H = (appT P t t' xs.length (srcN y) (szA P t) ∧ (∀ a, a ∈ xs → a.cells.length = szA P t) ∧ srcS y H (szA P t)) := rfl
@[simp] theorem appV_true : appV P t true (.sl .exact xs) y H = if srcN y = 0 then .sl .exact xs else .mv H.length (xs.length + srcN y) (szA P t) 0 (xs.length + srcN y) := rfl
@[simp] theorem appH_true : appH P t true (.sl .exact xs) y H = if srcN y = 0 then H else H ++ [.row (xs.length + srcN y) (szA P t) (xs.flatMap AV.cells ++ srcC y H)] := rfl
@[simp] theorem appS_mv : appS P t t' b (.mv id n sz off len) y H = (off = 0 ∧ len = n ∧ appT P t t' n (srcN y) sz ∧ srcS y H sz ∧ match H[id]? with | some (.row n' sz' _) => n' = n ∧ sz' = sz | _ => False) := rfl
@[simp] theorem appV_mv : appV P t b (.mv id n sz off len) y H = .mv id (n + srcN y) sz 0 (n + srcN y) := rfl
@[simp] theorem appH_mv : appH P t b (.mv id n sz off len) y H = match H[id]? with | some (.row _ _ cs) => H.set id (.row (n + srcN y) sz (cs ++ srcC y H)) | _ => H := rfl
end
@[simp] theorem appOwn_no : appOwn .no m H = .no := rfl
@[simp] theorem appOwn_tok : appOwn (.tok i) m H = .tok i := rfl
@[simp] theorem appOwn_exact : appOwn .exact m H = ownAt m H.length := rfl
@[simp] theorem ownAt_zero : ownAt 0 k = .exact := rfl
@[simp] theorem ownAt_pos (h : 0 < m) : ownAt m k = .tok k := if_neg (by omega)
@[simp] theorem appHo_no : appHo .no n m sz H = H := rfl
@[simp] theorem appHo_tok : appHo (.tok i) n m sz H = H.set i (.spare (n + m) sz) := rfl
@[simp] theorem appHo_exact : appHo .exact n m sz H = H ++ appJ n m sz := by
  show (if m = 0 then H else H ++ [.spare (n + m) sz]) = H ++ (if m = 0 then [] else [.spare (n + m) sz])
  split <;> simp
@[simp] theorem appJ_zero : appJ n 0 sz = [] := rfl
@[simp] theorem appJ_pos (h : 0 < m) : appJ n m sz = [.spare (n + m) sz] := if_neg (by omega)
@[simp] theorem appOk_exact : appOk .exact n m sz H = True := rfl
@[simp] theorem appOk_no : appOk .no n m sz H = (m = 0) := rfl
@[simp] theorem appOk_tok : appOk (.tok i) n m sz H = (H[i]? = some (.spare n sz)) := rfl
@[simp] theorem appOk_base (h : q = n + m) : appOk (ownAt m 0) q p sz (appJ n m sz) = True := by
  unfold ownAt appJ
  split
  · rfl
  · simp [h]
@[simp] theorem appOk_cons : appOk (ownAt m (k + 1)) q p sz (x :: L) = appOk (ownAt m k) q p sz L := by
  unfold ownAt
  split
  · rfl
  · simp
@[simp] theorem appOk_app (h : q = n + m) : appOk (ownAt m H.length) q p sz (H ++ appJ n m sz) = True := by
  unfold ownAt appJ
  split
  · rfl
  · simp [h]
@[simp] theorem appHo_base : appHo (ownAt m 0) n' m' sz (appJ n m sz) = appK m n' m' sz := by
  unfold ownAt appJ appK
  by_cases h : m = 0
  · subst h
    by_cases h' : m' = 0
    · subst h'; simp
    · simp [h', Nat.pos_of_ne_zero h']
  · simp [h]
@[simp] theorem appHo_cons : appHo (ownAt m (k + 1)) n' m' sz (x :: L) = x :: appHo (ownAt m k) n' m' sz L := by
  unfold ownAt
  split
  · simp
  · simp
@[simp] theorem appHo_app : appHo (ownAt m H.length) n' m' sz (H ++ appJ n m sz) = H ++ appK m n' m' sz := by
  unfold ownAt appJ appK
  by_cases h : m = 0
  · subst h
    by_cases h' : m' = 0
    · subst h'; simp
    · simp [h', Nat.pos_of_ne_zero h']
  · simp [h]
end
end Go.Proofs.YtjplcdeaedflpaaGreatDoor.PL
