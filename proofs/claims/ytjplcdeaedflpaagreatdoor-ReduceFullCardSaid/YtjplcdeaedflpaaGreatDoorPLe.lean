/- A logic of plain values for functions of the program: what it shows of a function's code holds of each run (part e). -/
import Derived.Test.YtjplcdeaedflpaaGreatDoorPLd
import Derived.ChangeKeysEq
set_option linter.unusedVariables false
set_option linter.unusedSimpArgs false
namespace Go.Proofs.YtjplcdeaedflpaaGreatDoor.PL
open Go.RowKit

/-! ### what a call has made, once it stays -/
mutual
/-- x told of memory H is y of memory that stays. -/
inductive Frz (H : List HO) : AV → AV → Prop
  | cl {x y : AV} (h : Cl1 x y) : Frz H x y
  | agg {cs ds : List AV} (h : FrzC H cs ds) : Frz H (.agg cs) (.agg ds)
  | tup {cs ds : List AV} (h : FrzC H cs ds) : Frz H (.tup cs) (.tup ds)
  | sl {own : Own} {xs ys : List AV} (h : FrzC H (xs.flatMap AV.cells) (ys.flatMap AV.cells)) (hl : xs.length = ys.length) (hs : ∀ n, (∀ x, x ∈ xs → x.cells.length = n) → ∀ y, y ∈ ys → y.cells.length = n) : Frz H (.sl own xs) (.sl .no ys)
  | mv {id n sz off len : Nat} {cs ys : List AV} (hi : H[id]? = some (.row n sz cs)) (h : FrzC H ((cs.drop (off * sz)).take (len * sz)) (ys.flatMap AV.cells)) (hl : ys.length = len) (hs : ∀ y, y ∈ ys → y.cells.length = sz) : Frz H (.mv id n sz off len) (.sl .no ys)
  | ptr {id off : Nat} {cs ds : List AV} (hi : H[id]? = some (.box cs)) (h : FrzC H (cs.drop off) ds) : Frz H (.ptr id off) (.ref ds)
inductive FrzC (H : List HO) : List AV → List AV → Prop
  | nil : FrzC H [] []
  | cons {x y : AV} {xs ys : List AV} (h : Frz H x y) (t : FrzC H xs ys) : FrzC H (x :: xs) (y :: ys)
end

theorem Frz.one {H : List HO} {x y : AV} (h : Frz H x y) (hx : x.one = true) : y.one = true := by
  cases h with
  | cl h => exact h.cl.2 hx
  | agg h => cases hx
  | tup h => cases hx
  | sl h hl hs => rfl
  | mv hi h hl hs => rfl
  | ptr hi h => rfl
theorem FrzC.ones {H : List HO} : ∀ {xs ys : List AV}, FrzC H xs ys → AV.ones xs → AV.ones ys
  | [], [], _, _ => fun x h => by cases h
  | x :: xs, y :: ys, .cons h t, h1 => fun z hz => by
    rcases List.mem_cons.1 hz with rfl | hz
    · exact h.one (h1 _ (List.mem_cons_self ..))
    · exact FrzC.ones t (fun w hw => h1 w (List.mem_cons_of_mem _ hw)) z hz

def frzI (w0 : Bs) (Γ : Gh) (w : World) : Nat → Nat → Option Value := fun b o => if w0.w.heap.size ≤ b then w.cell? ⟨b, o, none⟩ else Γ.I b o
theorem frz_le {w0 : Bs} {Γ : Gh} {H : List HO} {w : World} (hr : R w0 Γ H w) {b o : Nat} {v : Value} (h : Γ.I b o = some v) : frzI w0 Γ w b o = some v := by
  unfold frzI
  split
  · exact hr.imm _ _ _ h
  · exact h
theorem PI.mono {I J : Nat → Nat → Option Value} (h : ∀ b o v, I b o = some v → J b o = some v) : Gh.Le (PI I) (PI J) := ⟨h, fun _ _ h => (by cases h), fun _ _ _ h => (by cases h)⟩

mutual
theorem Frz.vr {w0 : Bs} {Γ : Gh} {H : List HO} {w : World} (hr : R w0 Γ H w) {x y : AV} {v : Value} (h : Frz H x y) (r : VR Γ x v) : VR (PI (frzI w0 Γ w)) y v :=
  match h with
  | .cl h => (h.cl.1 Γ v r).mono (PI.mono fun _ _ _ h => frz_le hr h)
  | .agg h => by
    cases r with
    | agg h1 r => exact .agg (h.ones h1) (FrzC.vrs hr h r)
  | .tup h => by
    cases r with
    | tup r => exact .tup (FrzC.vrs hr h r)
  | .sl h hl hs => by
    cases r with
    | sl0 ho =>
      have : _ = [] := List.eq_nil_of_length_eq_zero hl.symm
      rw [this]
      exact .sl0 trivial
    | sl hn hs' h1 r hi ho hc => exact .sl (by rw [hn, hl]) (hs _ hs') (h.ones h1) (FrzC.vrs hr h r) (fun i v hv => frz_le hr (hi i v hv)) trivial hc
  | .mv (cs := cs) (ys := ys) (off := off) (len := len) (sz := sz) (n := n) hi h hl hs => by
    cases r with
    | @mv _ _ _ _ _ b cap o hT hle hnc ho =>
      obtain ⟨cur, e, hw, hsz, _, hv, h1⟩ := hr.row hi hT
      have h1' : AV.ones ((cs.drop (off * sz)).take (len * sz)) := fun x hx => h1 x (List.mem_of_mem_drop (List.mem_of_mem_take hx))
      rcases Nat.eq_zero_or_pos len with h0 | hpos
      · subst h0
        have : ys = [] := List.eq_nil_of_length_eq_zero hl
        rw [this]
        exact .sl0 trivial
      · have ho := ho (by omega)
        subst ho
        refine .sl (sz := sz) hl.symm hs (h.ones h1') (FrzC.vrs hr h ((hv.drop (off * sz)).take (len * sz))) ?_ trivial (by omega)
        intro i v hv'
        rw [List.getElem?_take] at hv'
        split at hv'
        · rw [List.getElem?_drop, List.getElem?_take] at hv'
          split at hv'
          · obtain ⟨bs, hobj, _⟩ := hr.obj
            obtain ⟨hb, ⟨cap', _, _, hT', _⟩, _⟩ := hobj _ _ hi rfl
            rw [hT] at hT'
            simp only [Option.some.injEq, Prod.mk.injEq] at hT'
            obtain ⟨rfl, rfl⟩ := hT'
            show frzI w0 Γ w _ _ = _
            unfold frzI
            rw [if_pos hb, cell_in hw]
            simpa using hv'
          · cases hv'
        · cases hv'
  | .ptr (cs := cs) (off := off) hi h => by
    cases r with
    | @ptr _ _ b hB =>
      obtain ⟨vals, e, hw, hv, h1⟩ := hr.box hi hB
      refine .ref (h.ones fun x hx => h1 x (List.mem_of_mem_drop hx)) (FrzC.vrs hr h (hv.drop off)) ?_
      intro i v hv'
      rw [List.getElem?_drop] at hv'
      obtain ⟨bs, hobj, _⟩ := hr.obj
      obtain ⟨hb, hB', _⟩ := hobj _ _ hi rfl
      rw [hB] at hB'
      cases hB'
      show frzI w0 Γ w _ _ = _
      unfold frzI
      rw [if_pos hb, cell_in hw]
      simpa using hv'
theorem FrzC.vrs {w0 : Bs} {Γ : Gh} {H : List HO} {w : World} (hr : R w0 Γ H w) {xs ys : List AV} {vs : List Value} (h : FrzC H xs ys) (r : VRs Γ xs vs) : VRs (PI (frzI w0 Γ w)) ys vs :=
  match h with
  | .nil => by cases r; exact .nil
  | .cons h t => by
    cases r with
    | cons r rs => exact .cons (Frz.vr hr h r) (FrzC.vrs hr t rs)
end

/-- A call of plain values, out of its body's, what it has made stays. -/
theorem T.introF {P : Program} {f : FuncId} {args : List AV} {r : AV} (h : TS P f args [] fun r' H' => Frz H' r' r) : T P f args r := by
  refine fun I w vs hg hi hv => ?_
  have hr : R ⟨w, I⟩ (PI I) [] w := ⟨hg, Below.refl _ _, hi, ⟨fun _ => 0, by simp, by simp⟩, fun _ _ => ⟨rfl, fun _ => rfl⟩, fun _ _ _ _ h => h, fun i hi => (by simp at hi)⟩
  refine (h ⟨w, I⟩ (PI I) w vs hr hv).mono ?_
  rintro e w' ⟨Γ', v, r', H', rfl, le, h2, h3, h4⟩
  refine ⟨frzI ⟨w, I⟩ Γ' w', v, rfl, fun b o v h => frz_le h3 (le.I _ _ _ h), ?_, Frz.vr h3 h4 h2, h3.below⟩
  intro b o u hu
  unfold frzI at hu
  split at hu
  · rename_i hge; exact .inr ⟨hge, hu⟩
  · rename_i hlt; exact .inl (h3.old b o u (by simp at hlt; exact hlt) hu)

/-! values that look at no memory -/
mutual
def AV.fl : AV → Bool
  | .any | .bool _ | .int _ _ | .str _ | .nilp | .nilm | .nilf | .nili => true
  | .agg cs => AV.fls cs
  | .tup cs => AV.fls cs
  | _ => false
def AV.fls : List AV → Bool
  | [] => true
  | x :: xs => x.fl && AV.fls xs
end
mutual
theorem VR.fl {Γ Δ : Gh} {x : AV} {v : Value} (r : VR Γ x v) (h : x.fl = true) : VR Δ x v := by
  cases x <;> first | (simp [AV.fl] at h; done) | skip
  case any => exact .any _
  case bool => cases r; exact .bool _
  case int => cases r; exact .int _ _
  case str => cases r; exact .str _
  case nilp => cases r; exact .nilp
  case nilm => cases r; exact .nilm
  case nilf => cases r; exact .nilf
  case nili => cases r; exact .nili
  case agg cs =>
    cases r with
    | agg h1 r => exact .agg h1 (VRs.fl r (by simpa [AV.fl] using h))
  case tup cs =>
    cases r with
    | tup r => exact .tup (VRs.fl r (by simpa [AV.fl] using h))
theorem VRs.fl {Γ Δ : Gh} {xs : List AV} {vs : List Value} (r : VRs Γ xs vs) (h : AV.fls xs = true) : VRs Δ xs vs := by
  cases xs with
  | nil => cases r; exact .nil
  | cons x xs =>
    cases r with
    | cons r t =>
      simp [AV.fls] at h
      exact .cons (VR.fl r h.1) (VRs.fl t h.2)
end
/-- A call that reads what may still be written, and tells a value that looks at no memory. -/
theorem TS.callF {P : Program} {f : FuncId} {args ys : List AV} {H : List HO} {K : AV → List HO → Prop} {r : AV} (h : T P f ys r) (hc : FrzC H args ys) (hf : r.fl = true) (hk : K r H) : TS P f args H K := by
  intro w0 Γ w vs hr hv
  have hv' := FrzC.vrs hr hc hv
  refine (h (frzI w0 Γ w) w vs (hr.glo.mono hr.below) (fun b o v h => ?_) hv').mono ?_
  · unfold frzI at h
    split at h
    · exact h
    · exact hr.imm _ _ _ h
  · rintro e w' ⟨I', v, rfl, h1, h2, h3, h4⟩
    exact ⟨Γ, v, r, H, rfl, Gh.Le.refl Γ, h3.fl hf, hr.drew h4, hk⟩

/-! #### rows of plain values -/
theorem FrzC.refl {H : List HO} : ∀ {xs : List AV}, (∀ x, x ∈ xs → Cl1 x x) → FrzC H xs xs
  | [], _ => .nil
  | x :: xs, h => .cons (.cl (h x (List.mem_cons_self ..))) (FrzC.refl fun y hy => h y (List.mem_cons_of_mem _ hy))
theorem Frz.row {H : List HO} {id n sz : Nat} {cs ys : List AV} (hi : H[id]? = some (.row n sz cs)) (hc : cs = ys.flatMap AV.cells) (hl : ys.length = n) (hs : ∀ y, y ∈ ys → y.cells.length = sz) (hp : ∀ x, x ∈ cs → Cl1 x x) : Frz H (.mv id n sz 0 n) (.sl .no ys) := by
  subst hc
  have hlen : (ys.flatMap AV.cells).length = n * sz := by
    rw [← hl]; clear hl hp hi
    induction ys with
    | nil => simp
    | cons y ys ih => rw [List.flatMap_cons, List.length_append, hs y (List.mem_cons_self ..), ih fun z hz => hs z (List.mem_cons_of_mem _ hz), List.length_cons, Nat.add_mul]; omega
  refine .mv hi ?_ hl hs
  rw [Nat.zero_mul, List.drop_zero, List.take_of_length_le (by omega)]
  exact FrzC.refl hp
theorem Frz.of_cl2 {H : List HO} {x y : AV} (h : Cl2 x y) : Frz H x y := by
  unfold Cl2 at h
  split at h
  · rename_i cs ds
    refine .agg ?_
    revert h
    induction cs generalizing ds with
    | nil => intro h; cases ds with | nil => exact .nil | cons => exact h.elim
    | cons c cs ih => intro h; cases ds with | nil => exact h.elim | cons d ds => exact .cons (.cl h.1) (ih _ h.2)
  · exact .cl h
theorem Frz.of_cls2 {H : List HO} : ∀ {xs ys : List AV}, Cls2 xs ys → FrzC H xs ys
  | [], [], _ => .nil
  | _ :: _, _ :: _, h => .cons (.of_cl2 h.1) (Frz.of_cls2 h.2)

theorem getElem?_set_same {α : Type} {H : List α} {i : Nat} {a o : α} (h : H[i]? = some o) : (H.set i a)[i]? = some a := by
  rw [List.getElem?_set_self (List.getElem?_eq_some_iff.1 h).1]
theorem getElem?_app {α : Type} {H l : List α} {i : Nat} {a : α} (h : H[i]? = some a) : (H ++ l)[i]? = some a := by
  rw [List.getElem?_append_left (List.getElem?_eq_some_iff.1 h).1, h]

/-! #### functions that the machine knows itself -/
theorem T.extern {P : Program} {f : FuncId} {args : List AV} {r : AV} (h : ∀ Γ vs, VRs Γ args vs → ∃ v, (∀ w, (callFunc f vs.toArray).run P w = .ok (.value v) w) ∧ ∀ Δ, VR Δ r v) : T P f args r := by
  intro I w vs hg hi hv
  obtain ⟨v, h1, h2⟩ := h _ vs hv
  exact .inr ⟨v, h1 w, I, v, rfl, fun _ _ _ h => h, fun _ _ _ h => .inl h, h2 _, Below.refl _ _⟩

/-! #### what says less, deep within -/
theorem Cl.agg {cs ds : List AV} (h : Cls cs ds) (h1 : AV.ones cs → AV.ones ds) : Cl (.agg cs) (.agg ds) := fun Γ v r => by
  cases r with
  | agg ho r => exact .agg (h1 ho) (h.VRs r)
theorem Cl.tup {cs ds : List AV} (h : Cls cs ds) : Cl (.tup cs) (.tup ds) := fun Γ v r => by
  cases r with
  | tup r => exact .tup (h.VRs r)
theorem Cl.sl {own : Own} {xs ys : List AV} (h : Cls (xs.flatMap AV.cells) (ys.flatMap AV.cells)) (hl : xs.length = ys.length) (hs : ∀ n, (∀ x, x ∈ xs → x.cells.length = n) → ∀ y, y ∈ ys → y.cells.length = n)
    (h1 : AV.ones (xs.flatMap AV.cells) → AV.ones (ys.flatMap AV.cells)) : Cl (.sl own xs) (.sl .no ys) := fun Γ v r => by
  cases r with
  | sl0 ho =>
    have : ys = [] := List.eq_nil_of_length_eq_zero hl.symm
    rw [this]
    exact .sl0 trivial
  | sl hn hs' h1' r hi ho hc => exact .sl (by rw [hn, hl]) (hs _ hs') (h1 h1') (h.VRs r) hi trivial hc
end Go.Proofs.YtjplcdeaedflpaaGreatDoor.PL

namespace Go.Proofs.YtjplcdeaedflpaaGreatDoor.PL
open Go.RowKit

/-! ### lists of things of one kind -/
def avs {α : Type} (f : α → AV) (l : List α) : List AV := l.map f
section avs
variable {α : Type} {f : α → AV} {l m : List α}
theorem avs_eq : avs f l = l.map f := rfl
@[simp] theorem avs_nil : avs f [] = [] := rfl
@[simp] theorem avs_cons {a : α} : avs f (a :: l) = f a :: avs f l := rfl
@[simp] theorem avs_length : (avs f l).length = l.length := by simp [avs]
@[simp] theorem avs_append : avs f l ++ avs f m = avs f (l ++ m) := by simp [avs]
@[simp] theorem avs_concat {a : α} : avs f l ++ [f a] = avs f (l ++ [a]) := by simp [avs]
@[simp] theorem avs_getElem? {i : Nat} : (avs f l)[i]? = l[i]?.map f := by simp [avs]
@[simp] theorem avs_getElem {i : Nat} (h : i < (avs f l).length) : (avs f l)[i] = f (l[i]'(by simpa using h)) := by simp [avs]
theorem avs_getD {i : Nat} {d : AV} (h : i < l.length) : (avs f l).getD i d = f l[i] := by simp [avs, h]
@[simp] theorem avs_take {i : Nat} : (avs f l).take i = avs f (l.take i) := by simp [avs]
@[simp] theorem avs_drop {i : Nat} : (avs f l).drop i = avs f (l.drop i) := by simp [avs]
@[simp] theorem avs_reverse : (avs f l).reverse = avs f l.reverse := by simp [avs]
@[simp] theorem avs_set {i : Nat} {a : α} : (avs f l).set i (f a) = avs f (l.set i a) := by simp [avs, List.map_set]
@[simp] theorem avs_eq_nil : avs f l = [] ↔ l = [] := by simp [avs]
theorem mem_avs {x : AV} : x ∈ avs f l ↔ ∃ a, a ∈ l ∧ f a = x := by simp [avs]
theorem avs_map {β : Type} {g : β → α} {k : List β} : avs f (k.map g) = avs (fun b => f (g b)) k := by simp [avs]
/-- how many cells each has -/
class Sized {α : Type} (f : α → AV) (n : outParam Nat) : Prop where
  size : ∀ a, (f a).cells.length = n
/-- that each hangs on no object -/
class Plain {α : Type} (f : α → AV) : Prop where
  pl : ∀ a, (f a).pl = true
@[simp] theorem avs_sized {n : Nat} [h : Sized f n] : (∀ x, x ∈ avs f l → x.cells.length = n) = True := eq_true fun x hx => by obtain ⟨a, _, rfl⟩ := mem_avs.1 hx; exact h.size a
@[simp] theorem avs_pls [h : Plain f] : AV.pls (avs f l) = true := by rw [AV.pls_iff]; intro x hx; obtain ⟨a, _, rfl⟩ := mem_avs.1 hx; exact h.pl a
end avs
instance {k : IntKind} : Sized (AV.int k) 1 := ⟨fun _ => rfl⟩
instance {k : IntKind} : Plain (AV.int k) := ⟨fun _ => rfl⟩
instance : Sized AV.str 1 := ⟨fun _ => rfl⟩
instance : Plain AV.str := ⟨fun _ => rfl⟩
instance : Sized AV.bool 1 := ⟨fun _ => rfl⟩
instance : Plain AV.bool := ⟨fun _ => rfl⟩
instance {α : Type} {g : α → List AV} {o : Own} : Sized (fun a => AV.sl o (g a)) 1 := ⟨fun _ => rfl⟩
theorem avs_flat1 {α : Type} {f : α → AV} {l : List α} (h : ∀ a, (f a).cells = [f a]) : (avs f l).flatMap AV.cells = avs f l := by
  induction l with
  | nil => rfl
  | cons a l ih => rw [avs_cons, List.flatMap_cons, ih, h]; rfl
@[simp] theorem avs_flat_int {k : IntKind} {l : List Int} : (avs (AV.int k) l).flatMap AV.cells = avs (AV.int k) l := avs_flat1 fun _ => rfl
@[simp] theorem avs_flat_str {l : List ByteArray} : (avs AV.str l).flatMap AV.cells = avs AV.str l := avs_flat1 fun _ => rfl
@[simp] theorem avs_flat_bool {l : List Bool} : (avs AV.bool l).flatMap AV.cells = avs AV.bool l := avs_flat1 fun _ => rfl
@[simp] theorem avs_flat_sl {α : Type} {g : α → List AV} {o : Own} {l : List α} : (avs (fun a => AV.sl o (g a)) l).flatMap AV.cells = avs (fun a => AV.sl o (g a)) l := avs_flat1 fun _ => rfl

abbrev ints' (l : List Int) : List AV := avs (AV.int .i64) l
/-- one round more: what is taken -/
theorem take_next {α : Type} {l : List α} {i : Nat} (h : i < l.length) : l.take (i + 1) = l.take i ++ [l[i]] := List.take_succ_eq_append_getElem h
theorem wrap_next {i : Nat} {n : Nat} (h : i < n) (hn : n < 9223372036854775807) : IntKind.i64.wrap ((i : Int) + 1) = ((i + 1 : Nat) : Int) := by rw [wrap_i64 (by omega) (by omega)]; rfl
end Go.Proofs.YtjplcdeaedflpaaGreatDoor.PL

namespace Go.Proofs.YtjplcdeaedflpaaGreatDoor.PL
open Go.RowKit

/-! ### two arrays of two numbers -/
theorem EqT.pair {P : Program} {t e : TypeId} {k : IntKind} (hu : P.underlying t = some (.array 2 e)) (he : P.underlying e = some (.int k)) (hn : szOf P e = some 1) (ha : aggOf P e = some false) (hg : P.eqGuardType P.depth t = false) {a b c d : Int} : EqT P t [.int k a, .int k b] [.int k c, .int k d] := by
  intro Γ vs us w hv hu'
  refine ⟨fun op x y => run_eqGuard_agg w op t x y _ _ hg, ?_⟩
  cases hv with
  | cons v1 hv => cases hv with
    | cons v2 hv =>
      cases hv; cases v1; cases v2
      cases hu' with
      | cons u1 hu' => cases hu' with
        | cons u2 hu' =>
          cases hu'; cases u1; cases u2
          obtain ⟨i, hi, hsz⟩ := Option.map_eq_some_iff.1 hn
          have hc : P.cellsOf e = 1 := by simp [Program.cellsOf, hi, hsz]
          have h0 := run_equalIn_array (P := P) (w := w) 9999 [Value.int k a, .int k b].toArray [Value.int k c, .int k d].toArray hu hi
          rw [show (Op.equal t (.agg _) (.agg _)) = Op.equalIn (9999 + 1) t (.agg [Value.int k a, .int k b].toArray) (.agg [Value.int k c, .int k d].toArray) from rfl, h0, hc]
          have p1 := run_part_one (P := P) ha (cs := [Value.int k a, .int k b].toArray) (o := 0) (v := .int k a) rfl w
          have p2 := run_part_one (P := P) ha (cs := [Value.int k a, .int k b].toArray) (o := 1) (v := .int k b) rfl w
          have p3 := run_part_one (P := P) ha (cs := [Value.int k c, .int k d].toArray) (o := 0) (v := .int k c) rfl w
          have p4 := run_part_one (P := P) ha (cs := [Value.int k c, .int k d].toArray) (o := 1) (v := .int k d) rfl w
          have q1 := run_equalIn_int (P := P) w 9998 e k k a c he
          have q2 := run_equalIn_int (P := P) w 9998 e k k b d he
          show (Op.eqItems (9998 + 1) e 1 _ _ [0, 1]).run P w = _
          simp only [Op.eqItems, Sem.run_bind, Nat.zero_mul, Nat.one_mul, p1, p3, q1, Result.andThen_ok, eqCells]
          by_cases h : a = c
          · subst h
            simp only [beq_self_eq_true, Bool.not_true, Bool.false_eq_true, if_false, Sem.run_bind, p2, p4, q2, Result.andThen_ok]
            by_cases h2 : b = d
            · subst h2; simp [Op.eqItems]
            · simp [h2]
          · simp [h]
end Go.Proofs.YtjplcdeaedflpaaGreatDoor.PL

namespace Go.Proofs.YtjplcdeaedflpaaGreatDoor.PL
open Go.RowKit

/-- A call whose new objects are not looked at again. -/
theorem TS.drop {P : Program} {f : FuncId} {args : List AV} {H H0 : List HO} {r : AV}
    (h : TS P f args H fun r' H' => r' = r ∧ ∃ junk, H' = H0 ++ junk) (hl : H.length ≤ H0.length) (hr : r.lt H0.length = true) (h0 : ∀ h : HO, h ∈ H0 → h ∈ H ∨ h.lt H0.length = true) : TS P f args H (PL.pt r H0) := by
  intro w0 Γ w vs hR hv
  have hu : Γ.upto H.length := hR.fresh
  have hu' : Γ.upto H0.length := fun i hi => hu i (by omega)
  have old : ∀ h : HO, h ∈ H0 → h.live = true → h.lt H0.length = true := by
    intro h hm hlv
    rcases h0 h hm with h1 | h1
    · obtain ⟨i, hi⟩ := List.getElem?_of_mem h1
      obtain ⟨bs, hobj, _⟩ := hR.obj
      exact (hobj i h hi hlv).2.lt hu'
    · exact h1
  refine (h w0 Γ w vs hR hv).mono ?_
  rintro e w' ⟨Γ', v, r', H', rfl, le, hv', hR', rfl, junk, rfl⟩
  exact ⟨Γ'.cut H0.length, v, r', H0, rfl, Gh.le_cut le hu', hv'.cut hr, hR'.cut old, rfl, rfl⟩
/-- .. and that leaves all else as it was -/
theorem TS.dropH {P : Program} {f : FuncId} {args : List AV} {H : List HO} {r : AV}
    (h : TS P f args H fun r' H' => r' = r ∧ ∃ junk, H' = H ++ junk) (hr : r.lt H.length = true) : TS P f args H (PL.pt r H) := TS.drop h (Nat.le_refl _) hr fun _ h => .inl h
theorem TS.pt {P : Program} {f : FuncId} {args : List AV} {H H' : List HO} {K : AV → List HO → Prop} {r : AV} (h : TS P f args H (pt r H')) (hk : K r H') : TS P f args H K := h.mono fun r' H'' hh => by
  obtain ⟨rfl, rfl⟩ := hh
  exact hk
/-! #### .. and what it tells of them stays -/
mutual
theorem Frz.vrJ {w0 : Bs} {Γ : Gh} {H Hm : List HO} {w : World} {J : Nat → Nat → Option Value} (hr : R w0 Γ H w) (hm : ∀ (i : Nat) (h : HO), Hm[i]? = some h → h.live = true → H[i]? = some h) (hle : ∀ b o v, Γ.I b o = some v → J b o = some v)
    (hoB : ∀ i cs b, Hm[i]? = some (.box cs) → Γ.B i = some b → ∀ o v, w.cell? ⟨b, o, none⟩ = some v → J b o = some v) (hoR : ∀ i n sz cs b cap, Hm[i]? = some (.row n sz cs) → Γ.T i n = some (b, cap) → ∀ o v, w.cell? ⟨b, o, none⟩ = some v → J b o = some v) {x y : AV} {v : Value} (h : Frz Hm x y) (r : VR Γ x v) : VR (PI J) y v :=
  match h with
  | .cl h => (h.cl.1 Γ v r).mono (PI.mono hle)
  | .agg h => by
    cases r with
    | agg h1 r => exact .agg (h.ones h1) (FrzC.vrsJ hr hm hle hoB hoR h r)
  | .tup h => by
    cases r with
    | tup r => exact .tup (FrzC.vrsJ hr hm hle hoB hoR h r)
  | .sl h hl hs => by
    cases r with
    | sl0 ho =>
      have : _ = [] := List.eq_nil_of_length_eq_zero hl.symm
      rw [this]
      exact .sl0 trivial
    | sl hn hs' h1 r hi ho hc => exact .sl (by rw [hn, hl]) (hs _ hs') (h.ones h1) (FrzC.vrsJ hr hm hle hoB hoR h r) (fun i v hv => hle _ _ _ (hi i v hv)) trivial hc
  | .mv (cs := cs) (ys := ys) (off := off) (len := len) (sz := sz) (n := n) hi h hl hs => by
    cases r with
    | @mv _ _ _ _ _ b cap o hT hlt hnc ho =>
      obtain ⟨cur, e, hw, hsz, _, hv, h1⟩ := hr.row (hm _ _ hi rfl) hT
      have h1' : AV.ones ((cs.drop (off * sz)).take (len * sz)) := fun x hx => h1 x (List.mem_of_mem_drop (List.mem_of_mem_take hx))
      rcases Nat.eq_zero_or_pos len with h0 | hpos
      · subst h0
        have : ys = [] := List.eq_nil_of_length_eq_zero hl
        rw [this]
        exact .sl0 trivial
      · have ho := ho (by omega)
        subst ho
        refine .sl (sz := sz) hl.symm hs (h.ones h1') (FrzC.vrsJ hr hm hle hoB hoR h ((hv.drop (off * sz)).take (len * sz))) ?_ trivial (by omega)
        intro i v hv'
        rw [List.getElem?_take] at hv'
        split at hv'
        · rw [List.getElem?_drop, List.getElem?_take] at hv'
          split at hv'
          · refine hoR _ _ _ _ _ _ hi hT _ _ ?_
            rw [cell_in hw]
            simpa using hv'
          · cases hv'
        · cases hv'
  | .ptr (cs := cs) (off := off) hi h => by
    cases r with
    | @ptr _ _ b hB =>
      obtain ⟨vals, e, hw, hv, h1⟩ := hr.box (hm _ _ hi rfl) hB
      refine .ref (h.ones fun x hx => h1 x (List.mem_of_mem_drop hx)) (FrzC.vrsJ hr hm hle hoB hoR h (hv.drop off)) ?_
      intro i v hv'
      rw [List.getElem?_drop] at hv'
      refine hoB _ _ _ hi hB _ _ ?_
      rw [cell_in hw]
      simpa using hv'
theorem FrzC.vrsJ {w0 : Bs} {Γ : Gh} {H Hm : List HO} {w : World} {J : Nat → Nat → Option Value} (hr : R w0 Γ H w) (hm : ∀ (i : Nat) (h : HO), Hm[i]? = some h → h.live = true → H[i]? = some h) (hle : ∀ b o v, Γ.I b o = some v → J b o = some v)
    (hoB : ∀ i cs b, Hm[i]? = some (.box cs) → Γ.B i = some b → ∀ o v, w.cell? ⟨b, o, none⟩ = some v → J b o = some v) (hoR : ∀ i n sz cs b cap, Hm[i]? = some (.row n sz cs) → Γ.T i n = some (b, cap) → ∀ o v, w.cell? ⟨b, o, none⟩ = some v → J b o = some v) {xs ys : List AV} {vs : List Value} (h : FrzC Hm xs ys) (r : VRs Γ xs vs) : VRs (PI J) ys vs :=
  match h with
  | .nil => by cases r; exact .nil
  | .cons h t => by
    cases r with
    | cons r rs => exact .cons (Frz.vrJ hr hm hle hoB hoR h r) (FrzC.vrsJ hr hm hle hoB hoR t rs)
end
/-- the first n are not looked at -/
def mask (n : Nat) (H : List HO) : List HO := List.replicate n .dead ++ H.drop n
theorem mask_get {n i : Nat} {H : List HO} {h : HO} (hi : (mask n H)[i]? = some h) (hl : h.live = true) : n ≤ i ∧ H[i]? = some h := by
  unfold mask at hi
  rcases Nat.lt_or_ge i n with hlt | hge
  · rw [List.getElem?_append_left (by simpa using hlt), List.getElem?_replicate, if_pos hlt] at hi
    cases hi; cases hl
  · refine ⟨hge, ?_⟩
    rw [List.getElem?_append_right (by simpa using hge), List.getElem?_drop, List.length_replicate] at hi
    rwa [show n + (i - n) = i by omega] at hi
theorem mask_app {n : Nat} {H junk : List HO} (h : H.length = n) : mask n (H ++ junk) = List.replicate n .dead ++ junk := by subst h; simp [mask]
theorem mask_ge {n i : Nat} {H : List HO} (h : n ≤ i) : (mask n H)[i]? = H[i]? := by
  unfold mask
  rw [List.getElem?_append_right (by simpa using h), List.getElem?_drop, List.length_replicate, show n + (i - n) = i by omega]
/-- A call whose new objects are not looked at again but by what it tells. -/
theorem TS.dropE {P : Program} {f : FuncId} {args : List AV} {H : List HO} {K : AV → List HO → Prop}
    (h : TS P f args H fun r' H' => ∃ r H0 junk, H' = H0 ++ junk ∧ H.length ≤ H0.length ∧ (∀ h : HO, h ∈ H0 → h ∈ H ∨ h.lt H0.length = true) ∧ Frz (mask H0.length H') r' r ∧ K r H0) : TS P f args H K := by
  intro w0 Γ w vs hR hv
  have hu : Γ.upto H.length := hR.fresh
  refine (h w0 Γ w vs hR hv).mono ?_
  rintro e w' ⟨Γ', v, r', H', rfl, le, hv', hR', r, H0, junk, rfl, hl, h0, hF, hK⟩
  have hu' : Γ.upto H0.length := fun i hi => hu i (by omega)
  have old : ∀ h : HO, h ∈ H0 → h.live = true → h.lt H0.length = true := by
    intro h hm hlv
    rcases h0 h hm with h1 | h1
    · obtain ⟨i, hi⟩ := List.getElem?_of_mem h1
      obtain ⟨bs, hobj, _⟩ := hR.obj
      exact (hobj i h hi hlv).2.lt hu'
    · exact h1
  have hcut := hR'.cut old
  obtain ⟨bs, hobj, hdis⟩ := hR'.obj
  have hS : ∃ S : Nat → Prop, ∀ b, S b ↔ ∃ i h, H0.length ≤ i ∧ (H0 ++ junk)[i]? = some h ∧ h.live = true ∧ bs i = b := ⟨_, fun _ => Iff.rfl⟩
  obtain ⟨S, hS⟩ := hS
  have hJ : ∃ J : Nat → Nat → Option Value, (∀ b o, S b → J b o = w'.cell? ⟨b, o, none⟩) ∧ ∀ b o, ¬ S b → J b o = Γ'.I b o := by
    classical
    exact ⟨fun b o => if S b then w'.cell? ⟨b, o, none⟩ else Γ'.I b o, fun b o h => if_pos h, fun b o h => if_neg h⟩
  obtain ⟨J, hJ1, hJ2⟩ := hJ
  have hle : ∀ b o v, Γ'.I b o = some v → J b o = some v := by
    intro b o v h
    by_cases hs : S b
    · rw [hJ1 b o hs]; exact hR'.imm _ _ _ h
    · rw [hJ2 b o hs]; exact h
  have hJimm : ∀ b o v, J b o = some v → w'.cell? ⟨b, o, none⟩ = some v := by
    intro b o v h
    by_cases hs : S b
    · rw [hJ1 b o hs] at h; exact h
    · rw [hJ2 b o hs] at h; exact hR'.imm _ _ _ h
  have hJold : ∀ b o v, b < w0.w.heap.size → J b o = some v → w0.I b o = some v := by
    intro b o v hb h
    by_cases hs : S b
    · obtain ⟨i, k, _, h2, h3, rfl⟩ := (hS b).1 hs
      have := (hobj i k h2 h3).1
      omega
    · rw [hJ2 b o hs] at h; exact hR'.old _ _ _ hb h
  have get : ∀ (i : Nat) (h : HO), H0[i]? = some h → (H0 ++ junk)[i]? = some h := fun i h hi => by
    rw [List.getElem?_append_left (List.getElem?_eq_some_iff.1 hi).1]; exact hi
  have hnot : ∀ (i : Nat) (h : HO), H0[i]? = some h → h.live = true → ¬ S (bs i) := by
    intro i h hi hlv hs
    obtain ⟨j, k, hj, h2, h3, h4⟩ := (hS _).1 hs
    have := (List.getElem?_eq_some_iff.1 hi).1
    exact hdis j i k h h2 (get i h hi) h3 hlv (by omega) h4
  have hvr : VR (PI J) r v := by
    refine Frz.vrJ hR' (fun i h hi hlv => (mask_get hi hlv).2) hle ?_ ?_ hF hv'
    · intro i cs b hi hB o u hu
      obtain ⟨hge, hi⟩ := mask_get hi rfl
      obtain ⟨_, hB', _⟩ := hobj i _ hi rfl
      rw [hB] at hB'
      cases hB'
      rw [hJ1 _ _ ((hS _).2 ⟨i, _, hge, hi, rfl, rfl⟩)]
      exact hu
    · intro i n sz cs b cap hi hT o u hu
      obtain ⟨hge, hi⟩ := mask_get hi rfl
      obtain ⟨_, ⟨cap', cur, e, hT', _⟩, _⟩ := hobj i _ hi rfl
      rw [hT] at hT'
      simp only [Option.some.injEq, Prod.mk.injEq] at hT'
      obtain ⟨rfl, rfl⟩ := hT'
      rw [hJ1 _ _ ((hS _).2 ⟨i, _, hge, hi, rfl, rfl⟩)]
      exact hu
  have hΔ : Gh.Le (Γ'.cut H0.length) ⟨J, (Γ'.cut H0.length).B, (Γ'.cut H0.length).T⟩ := ⟨hle, fun _ _ h => h, fun _ _ _ h => h⟩
  refine ⟨⟨J, (Γ'.cut H0.length).B, (Γ'.cut H0.length).T⟩, v, r, H0, rfl, (Gh.le_cut le hu').trans hΔ, VR.mono (Γ := PI J) (Δ := ⟨J, (Γ'.cut H0.length).B, (Γ'.cut H0.length).T⟩) ⟨fun _ _ _ h => h, fun _ _ h => (by cases h), fun _ _ _ h => (by cases h)⟩ hvr, ?_, hK⟩
  refine ⟨hcut.glo, hcut.below, hJimm, ⟨bs, ?_, ?_⟩, hcut.fresh, hJold, hcut.resv⟩
  · intro i h hi hlv
    obtain ⟨g1, g2⟩ := hobj i h (get i h hi) hlv
    have g3 := g2.cut (List.getElem?_eq_some_iff.1 hi).1 (old h (List.mem_of_getElem? hi) hlv)
    refine ⟨g1, g3.kept hΔ rfl (fun o ho => ?_) (fun m hm => hm)⟩
    show J _ _ = none
    rw [hJ2 _ _ (hnot i h hi hlv)]
    exact ho
  · intro i j h k hi hj
    exact hdis i j h k (get i h hi) (get j k hj)
theorem TS.dropF {P : Program} {f : FuncId} {args : List AV} {H H0 : List HO} {r : AV}
    (h : TS P f args H fun r' H' => Frz (mask H0.length H') r' r ∧ ∃ junk, H' = H0 ++ junk) (hl : H.length ≤ H0.length) (h0 : ∀ h : HO, h ∈ H0 → h ∈ H ∨ h.lt H0.length = true) : TS P f args H (PL.pt r H0) :=
  TS.dropE (h.mono fun r' H' ⟨hF, junk, e⟩ => ⟨r, H0, junk, e, hl, h0, hF, rfl, rfl⟩)
/-! lists of lists, whatever their rows -/
abbrev oslA {α : Type} (f : α → AV) (p : Own × List α) : AV := .sl p.1 (avs f p.2)
instance {α : Type} {f : α → AV} : Sized (oslA f) 1 := ⟨fun _ => rfl⟩
abbrev slA {α : Type} (f : α → AV) (l : List α) : AV := .sl .no (avs f l)
instance {α : Type} {f : α → AV} : Sized (slA f) 1 := ⟨fun _ => rfl⟩
instance {α : Type} {f : α → AV} [h : Plain f] : Plain (slA f) := ⟨fun l => by simp [AV.pl]⟩
@[simp] theorem avs_flat_osl {α : Type} {f : α → AV} {l : List (Own × List α)} : (avs (oslA f) l).flatMap AV.cells = avs (oslA f) l := avs_flat1 fun _ => rfl
@[simp] theorem avs_flat_slA {α : Type} {f : α → AV} {l : List (List α)} : (avs (slA f) l).flatMap AV.cells = avs (slA f) l := avs_flat1 fun _ => rfl
/-- values of cells that say themselves -/
class Selfs {α : Type} (f : α → AV) : Prop where
  self : ∀ a x, x ∈ (f a).cells → Cl1 x x
theorem Selfs.flat {α : Type} {f : α → AV} [h : Selfs f] {l : List α} : ∀ x, x ∈ (avs f l).flatMap AV.cells → Cl1 x x := by
  intro x hx
  obtain ⟨y, hy, hxy⟩ := List.mem_flatMap.1 hx
  obtain ⟨a, _, rfl⟩ := mem_avs.1 hy
  exact h.self a x hxy
instance {k : IntKind} : Selfs (AV.int k) := ⟨fun a x h => by simp [AV.cells] at h; subst h; simp⟩
instance : Selfs AV.str := ⟨fun a x h => by simp [AV.cells] at h; subst h; simp⟩
instance : Selfs AV.bool := ⟨fun a x h => by simp [AV.cells] at h; subst h; simp⟩
instance {α : Type} {f : α → AV} [h : Plain f] : Selfs (slA f) := ⟨fun a x h => by simp [AV.cells] at h; subst h; simp⟩
theorem Frz.slN {α : Type} {f : α → AV} [h : Selfs f] {H : List HO} {own : Own} {l : List α} : Frz H (.sl own (avs f l)) (slA f l) := .sl (FrzC.refl Selfs.flat) rfl fun n h => h
theorem FrzC.osl {α : Type} {f : α → AV} [h : Selfs f] {H : List HO} : ∀ {l : List (Own × List α)}, FrzC H (avs (oslA f) l) (avs (slA f) (l.map Prod.snd))
  | [] => .nil
  | p :: l => .cons Frz.slN FrzC.osl
theorem Frz.slosl {α : Type} {f : α → AV} [h : Selfs f] {H : List HO} {own : Own} {l : List (Own × List α)} {m : List (List α)} (e : l.map Prod.snd = m) : Frz H (.sl own (avs (oslA f) l)) (slA (slA f) m) := by
  subst e
  exact .sl (by rw [avs_flat_osl, avs_flat_slA]; exact FrzC.osl) (by simp) fun n hn y hy => by
    obtain ⟨a, ha, rfl⟩ := mem_avs.1 hy
    obtain ⟨p, hp, rfl⟩ := List.mem_map.1 ha
    exact hn (oslA f p) (mem_avs.2 ⟨p, hp, rfl⟩)
theorem Frz.mvosl {α : Type} {f : α → AV} [h : Selfs f] {H : List HO} {id n : Nat} {l : List (Own × List α)} {m : List (List α)} (hi : H[id]? = some (.row n 1 (avs (oslA f) l))) (hn : l.length = n) (e : l.map Prod.snd = m) : Frz H (.mv id n 1 0 n) (slA (slA f) m) := by
  subst e
  refine .mv hi ?_ (by simp [hn]) (fun y hy => by obtain ⟨a, ha, rfl⟩ := mem_avs.1 hy; rfl)
  rw [Nat.zero_mul, List.drop_zero, List.take_of_length_le (by simp [hn]), avs_flat_slA]
  exact FrzC.osl
theorem Frz.mvA {α : Type} {f : α → AV} {sz : Nat} [hz : Sized f sz] [h : Selfs f] {H : List HO} {id n : Nat} {l : List α} (hi : H[id]? = some (.row n sz ((avs f l).flatMap AV.cells))) (hn : l.length = n) : Frz H (.mv id n sz 0 n) (slA f l) :=
  Frz.row hi rfl (by simp [hn]) (fun y hy => by obtain ⟨a, ha, rfl⟩ := mem_avs.1 hy; exact hz.size a) Selfs.flat
end Go.Proofs.YtjplcdeaedflpaaGreatDoor.PL

namespace Go.Proofs.YtjplcdeaedflpaaGreatDoor.PL
open Go.RowKit

/-! ### maps of plain keys -/
class KeyF {κ : Type} [DecidableEq κ] (kf : κ → AV) : Prop where
  eq : ∀ a b, kEq (kf a) (kf b) = decide (a = b)
instance {k : IntKind} : KeyF (AV.int k) := ⟨fun a b => rfl⟩
instance : KeyF AV.str := ⟨fun a b => rfl⟩
section
variable {κ β : Type} [DecidableEq κ] {kf : κ → AV} {g : β → AV} {l : List (κ × β)} {k k' : κ} {v : β} {i : Nat}
def lkp (k : κ) : List (κ × β) → Nat → Option (Nat × β)
  | [], _ => none
  | (a, v) :: l, i => if k = a then some (i, v) else lkp k l (i + 1)
def mpA (kf : κ → AV) (g : β → AV) (l : List (κ × β)) : List (AV × AV) := l.map fun p => (kf p.1, g p.2)
def getL (k : κ) (l : List (κ × β)) : Option β := (lkp k l 0).map Prod.snd
def putL (k : κ) (v : β) (l : List (κ × β)) : List (κ × β) := match lkp k l 0 with | some (i, _) => l.set i (k, v) | none => l ++ [(k, v)]
def delL (k : κ) (l : List (κ × β)) : List (κ × β) := match lkp k l 0 with | some (i, _) => l.eraseIdx i | none => l
theorem findK_mpA [h : KeyF kf] : ∀ {l : List (κ × β)} {i : Nat}, findK (kf k) (mpA kf g l) i = (lkp k l i).map fun p => (p.1, g p.2)
  | [], i => rfl
  | (a, v) :: l, i => by
    show (if kEq (kf k) (kf a) = true then _ else findK (kf k) (mpA kf g l) (i + 1)) = _
    rw [h.eq, findK_mpA, lkp]
    by_cases e : k = a <;> simp [e]
theorem lkp_shift : ∀ {l : List (κ × β)} {i : Nat}, lkp k l i = (lkp k l 0).map fun p => (p.1 + i, p.2)
  | [], i => rfl
  | (a, v) :: l, i => by
    unfold lkp
    by_cases e : k = a
    · simp [e]
    · rw [if_neg e, if_neg e, lkp_shift (l := l) (i := i + 1), lkp_shift (l := l) (i := 0 + 1), Option.map_map]
      congr 1
      funext p
      simp only [Function.comp]
      congr 1
      omega
theorem getL_nil : getL k ([] : List (κ × β)) = none := rfl
theorem getL_cons {a : κ} : getL k ((a, v) :: l) = if k = a then some v else getL k l := by
  unfold getL
  rw [show lkp k ((a, v) :: l) 0 = if k = a then some (0, v) else lkp k l 1 from rfl]
  by_cases e : k = a
  · simp [e]
  · rw [if_neg e, if_neg e, lkp_shift, Option.map_map]
    rfl
theorem lkp_at : ∀ {l : List (κ × β)} {i j : Nat} {v : β}, lkp k l i = some (j, v) → i ≤ j ∧ l[j - i]? = some (k, v)
  | [], i, j, v, h => by cases h
  | (a, w) :: l, i, j, v, h => by
    unfold lkp at h
    by_cases e : k = a
    · rw [if_pos e] at h
      cases h
      subst e
      exact ⟨Nat.le_refl _, by simp⟩
    · rw [if_neg e] at h
      obtain ⟨h1, h2⟩ := lkp_at h
      refine ⟨by omega, ?_⟩
      rw [show j - i = (j - (i + 1)) + 1 by omega]
      simpa using h2
theorem lkp_none_iff : ∀ {l : List (κ × β)} {i : Nat}, lkp k l i = none ↔ k ∉ l.map Prod.fst
  | [], i => by simp [lkp]
  | (a, w) :: l, i => by
    unfold lkp
    by_cases e : k = a
    · simp [e]
    · rw [if_neg e, lkp_none_iff]; simp [e]
theorem getL_none_iff : getL k l = none ↔ k ∉ l.map Prod.fst := by unfold getL; rw [Option.map_eq_none_iff, lkp_none_iff]
theorem getL_append {m : List (κ × β)} : getL k (l ++ m) = (getL k l).or (getL k m) := by
  induction l with
  | nil => simp [getL_nil]
  | cons p l ih =>
    obtain ⟨a, w⟩ := p
    rw [List.cons_append, getL_cons, getL_cons, ih]
    by_cases e : k = a <;> simp [e]
theorem getL_set : ∀ {l : List (κ × β)} {i : Nat} {w : β}, l[i]? = some (k, w) → getL k' (l.set i (k, v)) = if k' = k ∧ getL k (l.take i) = none then some v else getL k' l
  | [], i, w, h => by cases h
  | (a, u) :: l, 0, w, h => by
    simp at h
    obtain ⟨rfl, rfl⟩ := h
    simp only [List.set_cons_zero, getL_cons, List.take_zero, getL_nil, and_true]
    by_cases e : k' = a <;> simp [e]
  | (a, u) :: l, i + 1, w, h => by
    simp at h
    simp only [List.set_cons_succ, getL_cons, List.take_succ_cons, getL_set h]
    by_cases e : k' = a
    · by_cases e2 : k = a
      · simp [e, e2]
      · have : ¬ (a = k) := fun x => e2 x.symm
        simp [e, this]
    · by_cases e2 : k = a
      · have : k' ≠ k := fun x => e (x.trans e2)
        simp [e, e2, this]
      · simp [e, e2]
theorem lkp_first : ∀ {l : List (κ × β)} {i j : Nat} {v : β}, lkp k l i = some (j, v) → getL k (l.take (j - i)) = none
  | [], i, j, v, h => by cases h
  | (a, w) :: l, i, j, v, h => by
    unfold lkp at h
    by_cases e : k = a
    · rw [if_pos e] at h
      cases h
      simp [getL_nil]
    · rw [if_neg e] at h
      have h1 := (lkp_at h).1
      rw [show j - i = (j - (i + 1)) + 1 by omega, List.take_succ_cons, getL_cons, if_neg e]
      exact lkp_first h
theorem getL_put : getL k' (putL k v l) = if k' = k then some v else getL k' l := by
  unfold putL
  cases h : lkp k l 0 with
  | none =>
    dsimp only
    rw [getL_append, getL_cons, getL_nil]
    by_cases e : k' = k
    · subst e
      have : getL k' l = none := by rw [getL_none_iff]; exact lkp_none_iff.1 h
      simp [this]
    · simp [e]
  | some p =>
    obtain ⟨j, w⟩ := p
    dsimp only
    have h1 := (lkp_at h).2
    have h2 := lkp_first h
    rw [Nat.sub_zero] at h1 h2
    rw [getL_set h1, h2]
    simp
theorem putL_keys (h : (l.map Prod.fst).Nodup) : ((putL k v l).map Prod.fst).Nodup := by
  unfold putL
  cases e : lkp k l 0 with
  | none =>
    dsimp only
    rw [List.map_append, List.nodup_append]
    refine ⟨h, by simp, ?_⟩
    intro a ha b hb
    simp at hb
    subst hb
    rintro rfl
    exact (lkp_none_iff.1 e) ha
  | some p =>
    obtain ⟨j, w⟩ := p
    dsimp only
    have h1 := (lkp_at e).2
    rw [Nat.sub_zero] at h1
    have : (l.set j (k, v)).map Prod.fst = l.map Prod.fst := by
      rw [List.map_set]
      refine List.ext_getElem? fun i => ?_
      rw [List.getElem?_set]
      by_cases e2 : j = i
      · subst e2
        have hlt := (List.getElem?_eq_some_iff.1 h1).1
        rw [if_pos rfl, if_pos (by simpa using hlt), List.getElem?_map, h1]
        rfl
      · rw [if_neg e2]
    rw [this]; exact h
theorem putL_none (h : getL k l = none) : putL k v l = l ++ [(k, v)] := by
  have : lkp k l 0 = none := by rw [lkp_none_iff]; exact getL_none_iff.1 h
  unfold putL; rw [this]
theorem getL_erase : ∀ {l : List (κ × β)} {i : Nat} {w : β}, (l.map Prod.fst).Nodup → l[i]? = some (k, w) → getL k' (l.eraseIdx i) = if k' = k then none else getL k' l
  | [], i, w, _, h => by cases h
  | (a, u) :: l, 0, w, hn, h => by
    simp at h
    obtain ⟨rfl, rfl⟩ := h
    rw [List.map_cons, List.nodup_cons] at hn
    simp only [List.eraseIdx_cons_zero, getL_cons]
    by_cases e : k' = a
    · rw [if_pos e, e, getL_none_iff]; exact hn.1
    · simp [e]
  | (a, u) :: l, i + 1, w, hn, h => by
    simp at h
    rw [List.map_cons, List.nodup_cons] at hn
    simp only [List.eraseIdx_cons_succ, getL_cons, getL_erase hn.2 h]
    by_cases e : k' = a
    · by_cases e2 : k' = k
      · exfalso
        refine hn.1 ?_
        rw [← e, e2]
        exact List.mem_map.2 ⟨(k, w), List.mem_of_getElem? h, rfl⟩
      · simp [e, e2 ∘ e.trans]
        intro x; exact absurd (e.trans x) e2
    · simp [e]
theorem getL_del (hn : (l.map Prod.fst).Nodup) : getL k' (delL k l) = if k' = k then none else getL k' l := by
  unfold delL
  cases h : lkp k l 0 with
  | none =>
    dsimp only
    by_cases e : k' = k
    · rw [if_pos e, e, getL_none_iff]; exact lkp_none_iff.1 h
    · rw [if_neg e]
  | some p =>
    obtain ⟨j, w⟩ := p
    have h1 := (lkp_at h).2
    rw [Nat.sub_zero] at h1
    exact getL_erase hn h1
theorem delL_keys (h : (l.map Prod.fst).Nodup) : ((delL k l).map Prod.fst).Nodup := by
  unfold delL
  cases e : lkp k l 0 with
  | none => exact h
  | some p => exact List.Nodup.sublist (List.Sublist.map _ (List.eraseIdx_sublist _ _)) h
theorem putK_mpA [h : KeyF kf] : putK (kf k) (g v) (mpA kf g l) = mpA kf g (putL k v l) := by
  unfold putK putL
  rw [findK_mpA]
  cases lkp k l 0 with
  | none => simp [mpA]
  | some p => simp [mpA, List.map_set]
/-- what a look tells -/
def lookV (z : AV) (ok : Bool) (o : Option AV) : AV := match o with | some v => if ok = true then .tup [v, .bool true] else v | none => if ok = true then .tup [z, .bool false] else z
@[simp] theorem lookV_some {z v : AV} : lookV z true (some v) = .tup [v, .bool true] := rfl
@[simp] theorem lookV_none {z : AV} : lookV z true none = .tup [z, .bool false] := rfl
@[simp] theorem lookV_some' {z v : AV} : lookV z false (some v) = v := rfl
@[simp] theorem lookV_none' {z : AV} : lookV z false none = z := rfl
theorem found_mpA [h : KeyF kf] {z : AV} {ok : Bool} : foundV z ok (findK (kf k) (mpA kf g l) 0) = lookV z ok ((getL k l).map g) := by
  rw [findK_mpA]
  unfold foundV getL lookV
  cases lkp k l 0 with
  | none => rfl
  | some p => rfl
omit [DecidableEq κ] in
theorem mpA_length : (mpA kf g l).length = l.length := by simp [mpA]
end
theorem keys_int {P : Program} {t : TypeId} {q : IntKind} {β : Type} {g : β → AV} {k : Int} {l : List (Int × β)} : keysT P t (.int q k) (mpA (AV.int q) g l) = (P.underlying t = some (.int q)) := by
  unfold keysT
  refine propext ⟨fun h => h.1, fun h => ⟨h, fun e he => ?_⟩⟩
  simp only [mpA, List.mem_map] at he
  obtain ⟨p, _, rfl⟩ := he
  exact ⟨h, trivial⟩
theorem keys_str {P : Program} {t : TypeId} {β : Type} {g : β → AV} {k : ByteArray} {l : List (ByteArray × β)} : keysT P t (.str k) (mpA AV.str g l) = (P.underlying t = some .string) := by
  unfold keysT
  refine propext ⟨fun h => h.1, fun h => ⟨h, fun e he => ?_⟩⟩
  simp only [mpA, List.mem_map] at he
  obtain ⟨p, _, rfl⟩ := he
  exact ⟨h, trivial⟩

@[simp high] theorem ifAV_false {x y : AV} : ifAV false x y = y := by unfold ifAV; split <;> simp
@[simp high] theorem ifAV_true {x y : AV} : ifAV true x y = x := by unfold ifAV; split <;> simp
/-! #### arguments that say less -/
def Wk1 (x y : AV) : Prop := x = y ∨ ∃ o a, x = .sl o a ∧ y = .sl .no a
def Wks : List AV → List AV → Prop
  | [], [] => True
  | x :: xs, y :: ys => Wk1 x y ∧ Wks xs ys
  | _, _ => False
theorem Wk1.vr {x y : AV} (h : Wk1 x y) {Γ : Gh} {v : Value} (r : VR Γ x v) : VR Γ y v := by
  rcases h with rfl | ⟨o, a, rfl, rfl⟩
  · exact r
  · cases r with
    | sl0 ho => exact .sl0 trivial
    | sl hn hs h1 r hi ho hc => exact .sl hn hs h1 r hi trivial hc
theorem Wks.vrs {Γ : Gh} : ∀ {xs ys : List AV} {vs : List Value}, Wks xs ys → VRs Γ xs vs → VRs Γ ys vs
  | [], [], _, _, r => r
  | _ :: _, _ :: _, _, h, .cons r t => .cons (h.1.vr r) (Wks.vrs h.2 t)
@[simp] theorem Wk1_self {x : AV} : Wk1 x x = True := eq_true (.inl rfl)
@[simp] theorem Wk1_sl {o : Own} {a b : List AV} : Wk1 (.sl o a) (.sl .no b) = (a = b) := by
  refine propext ⟨fun h => ?_, fun h => by subst h; exact .inr ⟨o, a, rfl, rfl⟩⟩
  rcases h with h | ⟨o', a', h1, h2⟩
  · cases h; rfl
  · cases h1; cases h2; rfl
@[simp] theorem Wks_nil : Wks [] [] = True := rfl
@[simp] theorem Wks_cons {x y : AV} {xs ys : List AV} : Wks (x :: xs) (y :: ys) = (Wk1 x y ∧ Wks xs ys) := rfl
theorem TS.weak {P : Program} {f : FuncId} {args ys : List AV} {H : List HO} {K : AV → List HO → Prop} (h : TS P f ys H K) (hc : Wks args ys) : TS P f args H K := fun w0 Γ w vs hr hv => h w0 Γ w vs hr (hc.vrs hv)
/-! #### places in memory -/
section
variable {α : Type} {A L : List α} {x y z : α} {j : Nat}
theorem app_at0 : (A ++ x :: L)[A.length]? = some x := by simp
theorem app_at1 : (A ++ x :: y :: L)[A.length + 1]? = some y := by simp
theorem app_atn : (A ++ L)[A.length + j]? = L[j]? := by rw [List.getElem?_append_right (by omega)]; congr 1; omega
theorem app_at2 : (A ++ x :: y :: L)[A.length + 2 + j]? = L[j]? := by
  rw [show A ++ x :: y :: L = (A ++ [x, y]) ++ L by simp, show A.length + 2 + j = (A ++ [x, y]).length + j by simp, app_atn]
theorem app_setn : (A ++ L).set (A.length + j) z = A ++ L.set j z := by
  rw [List.set_append_right _ _ (by omega), show A.length + j - A.length = j by omega]
theorem app_set0 : (A ++ x :: L).set A.length z = A ++ z :: L := by simp
theorem app_set1 : (A ++ x :: y :: L).set (A.length + 1) z = A ++ x :: z :: L := by simp
theorem app_set2 : (A ++ x :: y :: L).set (A.length + 2 + j) z = A ++ x :: y :: L.set j z := by
  rw [show A ++ x :: y :: L = (A ++ [x, y]) ++ L by simp, List.set_append_right _ _ (by rw [List.length_append]; exact Nat.le_add_right _ _)]
  simp [show A.length + 2 + j - (A.length + 2) = j by omega]
end
end Go.Proofs.YtjplcdeaedflpaaGreatDoor.PL

namespace Go.Proofs.YtjplcdeaedflpaaGreatDoor.PL
open Go.RowKit

/-! ### what says less, deep within, by its form -/
mutual
inductive Dw : AV → AV → Prop
  | self {x : AV} (h : x.pl = true) : Dw x x
  | agg {cs ds : List AV} (h : Dws cs ds) : Dw (.agg cs) (.agg ds)
  | tup {cs ds : List AV} (h : Dws cs ds) : Dw (.tup cs) (.tup ds)
  | sl {own : Own} {xs ys : List AV} (h : Dws xs ys) : Dw (.sl own xs) (.sl .no ys)
inductive Dws : List AV → List AV → Prop
  | nil : Dws [] []
  | cons {x y : AV} {xs ys : List AV} (h : Dw x y) (t : Dws xs ys) : Dws (x :: xs) (y :: ys)
end
theorem Dw.one {x y : AV} (h : Dw x y) (hx : x.one = true) : y.one = true := by
  cases h with
  | self h => exact hx
  | agg h => cases hx
  | tup h => cases hx
  | sl h => rfl
theorem Dws.ones : ∀ {xs ys : List AV}, Dws xs ys → AV.ones xs → AV.ones ys
  | _, _, .nil, h => h
  | _, _, .cons h t, h1 => fun z hz => by
    rcases List.mem_cons.1 hz with rfl | hz
    · exact h.one (h1 _ (List.mem_cons_self ..))
    · exact Dws.ones t (fun w hw => h1 w (List.mem_cons_of_mem _ hw)) z hz
theorem Dws.len : ∀ {xs ys : List AV}, Dws xs ys → xs.length = ys.length
  | _, _, .nil => rfl
  | _, _, .cons h t => by simp [Dws.len t]
theorem Dw.clen {x y : AV} (h : Dw x y) : x.cells.length = y.cells.length := by
  cases h with
  | self h => rfl
  | agg h => exact h.len
  | tup h => rfl
  | sl h => rfl
theorem Dw.cones {x y : AV} (h : Dw x y) (hx : AV.ones x.cells) : AV.ones y.cells := by
  cases h with
  | self h => exact hx
  | agg h => exact h.ones hx
  | tup h => exact absurd (hx _ (List.mem_cons_self ..)) (by simp [AV.one])
  | sl h => intro z hz; simp [AV.cells] at hz; subst hz; rfl
theorem Dws.fones : ∀ {xs ys : List AV}, Dws xs ys → AV.ones (xs.flatMap AV.cells) → AV.ones (ys.flatMap AV.cells)
  | _, _, .nil, h => h
  | _, _, .cons h t, h1 => fun z hz => by
    rw [List.flatMap_cons, List.mem_append] at hz
    rw [List.flatMap_cons] at h1
    rcases hz with hz | hz
    · exact h.cones (fun w hw => h1 w (List.mem_append.2 (.inl hw))) z hz
    · exact Dws.fones t (fun w hw => h1 w (List.mem_append.2 (.inr hw))) z hz
theorem Dws.sizes {n : Nat} : ∀ {xs ys : List AV}, Dws xs ys → (∀ x, x ∈ xs → x.cells.length = n) → ∀ y, y ∈ ys → y.cells.length = n
  | _, _, .nil, _, y, hy => by cases hy
  | _, _, .cons h t, h1, y, hy => by
    rcases List.mem_cons.1 hy with rfl | hy
    · rw [← h.clen]; exact h1 _ (List.mem_cons_self ..)
    · exact Dws.sizes t (fun w hw => h1 w (List.mem_cons_of_mem _ hw)) y hy
theorem Cls.append : ∀ {xs ys us vs : List AV}, Cls xs ys → Cls us vs → Cls (xs ++ us) (ys ++ vs)
  | _, _, _, _, .nil, k => k
  | _, _, _, _, .cons h t, k => .cons h (Cls.append t k)
mutual
theorem Dw.cl {x y : AV} (h : Dw x y) : Cl x y :=
  match h with
  | .self h => Cl.self h
  | .agg h => Cl.agg (Dws.cls h) h.ones
  | .tup h => Cl.tup (Dws.cls h)
  | .sl h => Cl.sl (Dws.clf h) h.len (fun n hn => h.sizes hn) h.fones
theorem Dw.clc {x y : AV} (h : Dw x y) : Cls x.cells y.cells :=
  match h with
  | .self (x := x) h => Cls.self (by
      have : AV.pls [x] = true := by simp [AV.pls, h]
      simpa using AV.pls_cells this)
  | .agg h => Dws.cls h
  | .tup h => .cons (Cl.tup (Dws.cls h)) .nil
  | .sl h => .cons (Cl.sl (Dws.clf h) h.len (fun n hn => h.sizes hn) h.fones) .nil
theorem Dws.cls {xs ys : List AV} (h : Dws xs ys) : Cls xs ys :=
  match h with
  | .nil => .nil
  | .cons h t => .cons (Dw.cl h) (Dws.cls t)
theorem Dws.clf {xs ys : List AV} (h : Dws xs ys) : Cls (xs.flatMap AV.cells) (ys.flatMap AV.cells) :=
  match h with
  | .nil => .nil
  | .cons h t => by rw [List.flatMap_cons, List.flatMap_cons]; exact (Dw.clc h).append (Dws.clf t)
end
theorem Dws.self : ∀ {xs : List AV}, AV.pls xs = true → Dws xs xs
  | [], _ => .nil
  | x :: xs, h => by simp only [AV.pls, Bool.and_eq_true] at h; exact .cons (.self h.1) (Dws.self h.2)
theorem Dws.map {α : Type} {f g : α → AV} {l : List α} (h : ∀ a, a ∈ l → Dw (f a) (g a)) : Dws (avs f l) (avs g l) := by
  induction l with
  | nil => exact .nil
  | cons a l ih => exact .cons (h a (List.mem_cons_self ..)) (ih fun b hb => h b (List.mem_cons_of_mem _ hb))
theorem TS.callW {P : Program} {f : FuncId} {args ys : List AV} {H : List HO} {K : AV → List HO → Prop} {r : AV} (h : T P f ys r) (hc : Dws args ys) (hk : K r H) : TS P f args H K := TS.of_T h hc.cls hk
theorem TDK.callW {P : Program} {f : FuncId} {xs ys : List AV} {r : AV} {H : List HO} {K : AV → List HO → Prop} (h : T P f ys r) (hc : Dws xs ys) (hk : K r H) : TDK P f xs H K := TDK.of h hc.cls hk
theorem T.introW {P : Program} {f : FuncId} {args : List AV} {r : AV} (h : TS P f args [] fun r' _ => Dw r' r) : T P f args r := T.of_TS (h.mono fun r' H' h => h.cl)
/-- a guarded call of plain values -/
theorem GTK.callW {P : Program} {d : Bool} {f : FuncId} {xs ys : List AV} {g : Bool} {H : List HO} {K : AV → List HO → Prop} {r : AV} (h : g = true → T P f ys r ∧ Dws xs ys) (hk : K (.opt g r) H) : GTK P d f xs g H K :=
  .inl ⟨r, fun hg => TD.of_T (h hg).1 (h hg).2.cls, hk⟩

/-! ### what came in hangs on no object -/
theorem pls_pieces {P : Program} {cs : List AV} : ∀ {fs : List Field} {off : Nat}, tile P off fs = some cs.length → (∀ f, f ∈ fs → AV.pls ((cs.drop f.offset).take (P.cellsOf f.type)) = true) → AV.pls (cs.drop off) = true
  | [], off, h, _ => by
    simp [tile] at h
    rw [List.drop_of_length_le (by omega)]; rfl
  | f :: fs, off, h, hf => by
    rw [tile] at h
    split at h
    · rename_i e
      have h1 := hf f (List.mem_cons_self ..)
      have h2 := pls_pieces h fun g hg => hf g (List.mem_cons_of_mem _ hg)
      rw [e] at h1
      have : cs.drop off = (cs.drop off).take (P.cellsOf f.type) ++ cs.drop (off + P.cellsOf f.type) := by
        rw [← List.drop_drop, List.take_append_drop]
      rw [this, AV.pls_append, h1, h2]; rfl
    · cases h
theorem Sh.pls {P : Program} {S : List TypeId} (hS : plainS P S = true) {t : TypeId} {cs : List AV} (h : Sh P t cs) : t ∈ S → AV.pls cs = true := by
  induction h with
  | bool h => intro _; rfl
  | int h hw => intro _; rfl
  | str h hs => intro _; rfl
  | @sl t e b ys h hb hy hl ih =>
    intro ht
    have := List.all_eq_true.1 hS t ht
    rw [h] at this
    simp only [Bool.and_eq_true] at this
    have he : e ∈ S := by simpa using this.1
    simp only [AV.pls, AV.pl, Bool.and_true]
    rw [AV.pls_iff]
    intro x hx
    obtain ⟨y, hy', rfl⟩ := List.mem_map.1 hx
    have hp := ih y hy' he
    unfold mkAV
    split
    · simpa [AV.pl] using hp
    · cases y with
      | nil => rfl
      | cons z y => simp only [AV.pls, Bool.and_eq_true] at hp; exact hp.1
  | @struct t fs cs h hl hf ih =>
    intro ht
    have := List.all_eq_true.1 hS t ht
    rw [h] at this
    simp only [Bool.and_eq_true, List.all_eq_true, beq_iff_eq] at this
    obtain ⟨h1, h2⟩ := this
    have hp := pls_pieces (P := P) (cs := cs) (off := 0) (fs := fs.toList) (by rw [hl]; exact h2) fun f hf' => ih f hf' (by simpa using h1 f hf')
    simpa using hp
end Go.Proofs.YtjplcdeaedflpaaGreatDoor.PL

namespace Go.Proofs.YtjplcdeaedflpaaGreatDoor.PL
open Go.RowKit

/-- What is told of a slice with no room holds of one that may have none. -/
theorem TS.exd {P : Program} {f : FuncId} {args : List AV} {H : List HO} {K : AV → List HO → Prop} (h : TS P f args H fun r' H' => K r'.ex H') : TS P f args H K :=
  fun w0 Γ w vs hr hv => (h w0 Γ w vs hr hv).mono fun e w' ⟨Γ', v, r, H', h1, h2, h3, h4, h5⟩ => ⟨Γ', v, r.ex, H', h1, h2, h3.ex, h4, h5⟩

/-! what hangs on no object hangs on none from n on -/
mutual
theorem AV.lt_of_pl (n : Nat) : ∀ x : AV, x.pl = true → x.lt n = true
  | .any, _ => rfl
  | .bool _, _ => rfl
  | .int _ _, _ => rfl
  | .str _, _ => rfl
  | .nilp, _ => rfl
  | .nilm, _ => rfl
  | .nilf, _ => rfl
  | .nili, _ => rfl
  | .agg cs, h => AV.lts_of_pls n cs h
  | .tup cs, h => AV.lts_of_pls n cs h
  | .ref cs, h => AV.lts_of_pls n cs h
  | .sl .no xs, h => by simp only [AV.lt, Own.lt, Bool.true_and]; exact AV.lts_of_pls n xs h
  | .sl .exact xs, h => by simp only [AV.lt, Own.lt, Bool.true_and]; exact AV.lts_of_pls n xs h
  | .sl .nil xs, h => by simp only [AV.lt, Own.lt, Bool.true_and]; exact AV.lts_of_pls n xs h
  | .sl (.tok _) _, h => by cases h
  | .fn _ a b, h => by
    simp only [AV.pl, Bool.and_eq_true] at h
    simp only [AV.lt, AV.lts_of_pls n a h.1, AV.lts_of_pls n b h.2, Bool.and_self]
  | .iface _ v, h => AV.lt_of_pl n v h
  | .ptr _ _, h => by cases h
  | .map _, h => by cases h
  | .mv _ _ _ _ _, h => by cases h
  | .eptr _ _ _, h => by cases h
  | .opt _ _, h => by cases h
  | .ub, h => by cases h
theorem AV.lts_of_pls (n : Nat) : ∀ xs : List AV, AV.pls xs = true → AV.lts n xs = true
  | [], _ => rfl
  | x :: xs, h => by
    simp only [AV.pls, Bool.and_eq_true] at h
    simp only [AV.lts, AV.lt_of_pl n x h.1, AV.lts_of_pls n xs h.2, Bool.and_self]
end
theorem lts_flat_plain {α : Type} {f : α → AV} [h : Plain f] {l : List α} (n : Nat) : AV.lts n ((avs f l).flatMap AV.cells) = true := by
  rw [AV.lts_flat]; exact AV.lts_of_pls n _ avs_pls

/-! ### the cells of a row of things -/
section flat
variable {α : Type} {f : α → AV} {sz : Nat} [hz : Sized f sz]
theorem flatA_len (l : List α) : ((avs f l).flatMap AV.cells).length = l.length * sz := by
  induction l with
  | nil => simp
  | cons a l ih => rw [avs_cons, List.flatMap_cons, List.length_append, ih, hz.size, List.length_cons, Nat.add_mul]; omega
theorem flatA_split (l : List α) {i : Nat} (h : i < l.length) : (avs f l).flatMap AV.cells = (avs f (l.take i)).flatMap AV.cells ++ ((f l[i]).cells ++ (avs f (l.drop (i + 1))).flatMap AV.cells) := by
  have : l = l.take i ++ (l[i] :: l.drop (i + 1)) := by rw [← List.drop_eq_getElem_cons h, List.take_append_drop]
  conv => lhs; rw [this]
  rw [← avs_append, List.flatMap_append, avs_cons, List.flatMap_cons]
theorem flatA_pre (l : List α) {i : Nat} (h : i < l.length) : ((avs f (l.take i)).flatMap AV.cells).length = i * sz := by
  rw [flatA_len, List.length_take, Nat.min_eq_left (by omega)]
theorem flatA_at (l : List α) {i : Nat} (h : i < l.length) : (((avs f l).flatMap AV.cells).drop (i * sz)).take sz = (f l[i]).cells := by
  rw [flatA_split l h, List.drop_append_of_le_length (by rw [flatA_pre l h]; omega), List.drop_of_length_le (by rw [flatA_pre l h]; omega), List.nil_append, List.take_append_of_le_length (by rw [hz.size]; omega), List.take_of_length_le (by rw [hz.size]; omega)]
/-- some cells of one thing are replaced -/
theorem flatA_put (l : List α) {i : Nat} (h : i < l.length) {k : Nat} {new : List AV} {a : α} (hk : k + new.length ≤ sz) (ha : (f a).cells = (f l[i]).cells.take k ++ new ++ (f l[i]).cells.drop (k + new.length)) :
    ((avs f l).flatMap AV.cells).take (i * sz + k) ++ (new ++ ((avs f l).flatMap AV.cells).drop (i * sz + k + new.length)) = (avs f (l.set i a)).flatMap AV.cells := by
  have hp := flatA_pre (f := f) l h
  have hs := hz.size l[i]
  have h' : i < (l.set i a).length := by simpa using h
  rw [flatA_split (l.set i a) h', flatA_split l h]
  have e1 : (l.set i a).take i = l.take i := by rw [List.take_set_of_le (Nat.le_refl _)]
  have e2 : (l.set i a).drop (i + 1) = l.drop (i + 1) := by rw [List.drop_set_of_lt (by omega)]
  rw [e1, e2, List.getElem_set_self, ha]
  generalize ((avs f (l.take i)).flatMap AV.cells) = A at *
  generalize ((avs f (l.drop (i + 1))).flatMap AV.cells) = B at *
  generalize (f l[i]).cells = C at *
  have t1 : (A ++ (C ++ B)).take (i * sz + k) = A ++ C.take k := by
    rw [List.take_append, List.take_of_length_le (by omega), hp, show i * sz + k - i * sz = k by omega, List.take_append_of_le_length (by omega)]
  have t2 : (A ++ (C ++ B)).drop (i * sz + k + new.length) = C.drop (k + new.length) ++ B := by
    rw [List.drop_append, List.drop_of_length_le (by omega), hp, show i * sz + k + new.length - i * sz = k + new.length by omega, List.nil_append, List.drop_append_of_le_length (by omega)]
  rw [t1, t2]
  simp
end flat
end Go.Proofs.YtjplcdeaedflpaaGreatDoor.PL

namespace Go.Proofs.YtjplcdeaedflpaaGreatDoor.PL
open Go.RowKit

/-! ### a variable that is not written any more -/
mutual
inductive Fz (i : Nat) (cs : List AV) : AV → AV → Prop
  | same (x : AV) : Fz i cs x x
  | fn {f : Fn} {a c d : List AV} (h : Fzs i cs c d) : Fz i cs (.fn f a c) (.fn f a d)
  | ptr : Fz i cs (.ptr i 0) (.ref cs)
inductive Fzs (i : Nat) (cs : List AV) : List AV → List AV → Prop
  | nil : Fzs i cs [] []
  | cons {x y : AV} {xs ys : List AV} (h : Fz i cs x y) (t : Fzs i cs xs ys) : Fzs i cs (x :: xs) (y :: ys)
end
mutual
theorem Fz.vr {i b : Nat} {cs : List AV} {Γ Δ : Gh} (le : Gh.Le Γ Δ) (hB : Γ.B i = some b) (hr : VR Δ (.ref cs) (.pointer (some ⟨b, 0, none⟩))) {x y : AV} {v : Value} (h : Fz i cs x y) (r : VR Γ x v) : VR Δ y v :=
  match h with
  | .same x => r.mono le
  | .fn h => by
    cases r with
    | fn r r' => exact .fn (r.mono le) (Fzs.vrs le hB hr h r')
  | .ptr => by
    cases r with
    | ptr h => rw [hB] at h; cases h; exact hr
theorem Fzs.vrs {i b : Nat} {cs : List AV} {Γ Δ : Gh} (le : Gh.Le Γ Δ) (hB : Γ.B i = some b) (hr : VR Δ (.ref cs) (.pointer (some ⟨b, 0, none⟩))) {xs ys : List AV} {vs : List Value} (h : Fzs i cs xs ys) (r : VRs Γ xs vs) : VRs Δ ys vs :=
  match h with
  | .nil => by cases r; exact .nil
  | .cons h t => by
    cases r with
    | cons r rs => exact .cons (Fz.vr le hB hr h r) (Fzs.vrs le hB hr t rs)
end
/-- A call that is handed a variable which nobody writes any more: it is told as what stays. -/
theorem TS.freeze {P : Program} {f : FuncId} {i : Nat} {cs args args' : List AV} {H : List HO} {K : AV → List HO → Prop} (hi : H[i]? = some (.box cs)) (ha : Fzs i cs args args') (h : TS P f args' (H.set i .gone) K) : TS P f args H K := by
  intro w0 Γ w vs hR hv
  obtain ⟨hglo, hbel, himm, ⟨bs, hobj, hdis⟩, hfr, hold, hrv⟩ := hR
  obtain ⟨hb0, hB, ⟨vals, e, hw, hvs⟩, hones, hnone⟩ := hobj i _ hi rfl
  have hil := (List.getElem?_eq_some_iff.1 hi).1
  obtain ⟨Δ, hΔ⟩ : ∃ Δ : Gh, Δ = ⟨fun b o => if b = bs i then w.cell? ⟨b, o, none⟩ else Γ.I b o, Γ.B, Γ.T⟩ := ⟨_, rfl⟩
  have hcell : ∀ o, w.cell? ⟨bs i, o, none⟩ = vals[o]? := fun o => cell_in hw o
  have le : Gh.Le Γ Δ := by
    subst hΔ
    refine ⟨fun b o v hI => ?_, fun _ _ h => h, fun _ _ _ h => h⟩
    dsimp only
    split
    · exact himm _ _ _ hI
    · exact hI
  have hr : VR Δ (.ref cs) (.pointer (some ⟨bs i, 0, none⟩)) := by
    refine .ref hones (hvs.mono le) ?_
    intro o v ho
    subst hΔ
    show (if bs i = bs i then w.cell? ⟨bs i, 0 + o, none⟩ else _) = _
    rw [if_pos rfl, Nat.zero_add, hcell]
    simpa using ho
  have hget : ∀ (j : Nat) (k : HO), (H.set i .gone)[j]? = some k → k ≠ .gone → j ≠ i ∧ H[j]? = some k := by
    intro j k hj hk
    by_cases e : j = i
    · subst e
      rw [List.getElem?_set_self hil] at hj
      cases hj
      exact absurd rfl hk
    · rw [List.getElem?_set_ne (Ne.symm e)] at hj
      exact ⟨e, hj⟩
  have hR' : R w0 Δ (H.set i .gone) w := by
    refine ⟨hglo, hbel, ?_, ⟨bs, ?_, ?_⟩, ?_, ?_, ?_⟩
    · intro b o v hI
      subst hΔ
      dsimp only at hI
      split at hI
      · exact hI
      · exact himm _ _ _ hI
    · intro j k hj hl
      obtain ⟨hne, hj⟩ := hget j k hj (by rintro rfl; cases hl)
      obtain ⟨g1, g2⟩ := hobj j k hj hl
      refine ⟨g1, g2.kept le rfl (fun o ho => ?_) (fun m hm => by subst hΔ; exact hm)⟩
      subst hΔ
      show (if bs j = bs i then _ else _) = none
      rw [if_neg (hdis j i k _ hj hi hl rfl hne)]
      exact ho
    · intro j j' k k' hj hj' hl hl' hne
      obtain ⟨_, hj⟩ := hget j k hj (by rintro rfl; cases hl)
      obtain ⟨_, hj'⟩ := hget j' k' hj' (by rintro rfl; cases hl')
      exact hdis j j' k k' hj hj' hl hl' hne
    · intro j hj
      rw [List.length_set] at hj
      have := hfr j hj
      subst hΔ
      exact this
    · intro b o v hb hI
      subst hΔ
      dsimp only at hI
      split at hI
      · rename_i e; omega
      · exact hold b o v hb hI
    · intro j hj
      obtain ⟨_, hj⟩ := hget j _ hj (by simp)
      have := hrv j hj
      subst hΔ
      exact this
  refine (h w0 Δ w vs hR' (Fzs.vrs le hB hr ha hv)).mono ?_
  rintro e' w' ⟨Γ', v, r, H', g1, g2, g3, g4, g5⟩
  exact ⟨Γ', v, r, H', g1, le.trans g2, g3, g4, g5⟩
end Go.Proofs.YtjplcdeaedflpaaGreatDoor.PL
