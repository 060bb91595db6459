/- A logic of plain values for functions of the program: what it shows of a function's code holds of each run (part e). -/
import Derived.Test.YtgmhmdmfnmlhmaaPLd
import Derived.ChangeKeysEq
set_option linter.unusedVariables false
set_option linter.unusedSimpArgs false
namespace Go.Proofs.Ytgmhmdmfnmlhmaa.PL
open Go.RowKit

/-! ### what a call has made, once it stays -/
mutual
/-- x told of memory H is y of memory that stays. -/
inductive Frz (H : List HO) : AV → AV → Prop
  | cl {x y : AV} (h : Cl1 x y) : Frz H x y
  | agg {cs ds : List AV} (h : FrzC H cs ds) : Frz H (.agg cs) (.agg ds)
  | tup {cs ds : List AV} (h : FrzC H cs ds) : Frz H (.tup cs) (.tup ds)
  | sl {own : Own} {xs ys : List AV} (h : FrzC H (xs.flatMap AV.cells) (ys.flatMap AV.cells)) (hl : xs.length = ys.length) (hs : ∀ n, (∀ x, x ∈ xs → x.cells.length = n) → ∀ y, y ∈ ys → y.cells.length = n) : Frz H (.sl own xs) (.sl .no ys)
  | mv {id n sz off len : Nat} {cs ys : List AV} (hi : H[id]? = some (.row n sz cs)) (h : FrzC H ((cs.drop (off * sz)).take (len * sz)) (ys.flatMap AV.cells)) (hl : ys.length = len) (hs : ∀ y, y ∈ ys → y.cells.length = sz) : Frz H (.mv id n sz off len) (.sl .no ys)
  | ptr {id off : Nat} {cs ds : List AV} (hi : H[id]? = some (.box cs)) (h : FrzC H (cs.drop off) ds) : Frz H (.ptr id off) (.ref ds)
inductive FrzC (H : List HO) : List AV → List AV → Prop
  | nil : FrzC H [] []
  | cons {x y : AV} {xs ys : List AV} (h : Frz H x y) (t : FrzC H xs ys) : FrzC H (x :: xs) (y :: ys)
end

theorem Frz.one {H : List HO} {x y : AV} (h : Frz H x y) (hx : x.one = true) : y.one = true := by
  cases h with
  | cl h => exact h.cl.2 hx
  | agg h => cases hx
  | tup h => cases hx
  | sl h hl hs => rfl
  | mv hi h hl hs => rfl
  | ptr hi h => rfl
theorem FrzC.ones {H : List HO} : ∀ {xs ys : List AV}, FrzC H xs ys → AV.ones xs → AV.ones ys
  | [], [], _, _ => fun x h => by cases h
  | x :: xs, y :: ys, .cons h t, h1 => fun z hz => by
    rcases List.mem_cons.1 hz with rfl | hz
    · exact h.one (h1 _ (List.mem_cons_self ..))
    · exact FrzC.ones t (fun w hw => h1 w (List.mem_cons_of_mem _ hw)) z hz

def frzI (w0 : Bs) (Γ : Gh) (w : World) : Nat → Nat → Option Value := fun b o => if w0.w.heap.size ≤ b then w.cell? ⟨b, o, none⟩ else Γ.I b o
theorem frz_le {w0 : Bs} {Γ : Gh} {H : List HO} {w : World} (hr : R w0 Γ H w) {b o : Nat} {v : Value} (h : Γ.I b o = some v) : frzI w0 Γ w b o = some v := by
  unfold frzI
  split
  · exact hr.imm _ _ _ h
  · exact h
theorem PI.mono {I J : Nat → Nat → Option Value} (h : ∀ b o v, I b o = some v → J b o = some v) : Gh.Le (PI I) (PI J) := ⟨h, fun _ _ h => (by cases h), fun _ _ _ h => (by cases h)⟩

mutual
theorem Frz.vr {w0 : Bs} {Γ : Gh} {H : List HO} {w : World} (hr : R w0 Γ H w) {x y : AV} {v : Value} (h : Frz H x y) (r : VR Γ x v) : VR (PI (frzI w0 Γ w)) y v :=
  match h with
  | .cl h => (h.cl.1 Γ v r).mono (PI.mono fun _ _ _ h => frz_le hr h)
  | .agg h => by
    cases r with
    | agg h1 r => exact .agg (h.ones h1) (FrzC.vrs hr h r)
  | .tup h => by
    cases r with
    | tup r => exact .tup (FrzC.vrs hr h r)
  | .sl h hl hs => by
    cases r with
    | sl0 ho =>
      have : _ = [] := List.eq_nil_of_length_eq_zero hl.symm
      rw [this]
      exact .sl0 trivial
    | sl hn hs' h1 r hi ho hc => exact .sl (by rw [hn, hl]) (hs _ hs') (h.ones h1) (FrzC.vrs hr h r) (fun i v hv => frz_le hr (hi i v hv)) trivial hc
  | .mv (cs := cs) (ys := ys) (off := off) (len := len) (sz := sz) (n := n) hi h hl hs => by
    cases r with
    | @mv _ _ _ _ _ b cap o hT hle hnc ho =>
      obtain ⟨cur, e, hw, hsz, _, hv, h1⟩ := hr.row hi hT
      have h1' : AV.ones ((cs.drop (off * sz)).take (len * sz)) := fun x hx => h1 x (List.mem_of_mem_drop (List.mem_of_mem_take hx))
      rcases Nat.eq_zero_or_pos len with h0 | hpos
      · subst h0
        have : ys = [] := List.eq_nil_of_length_eq_zero hl
        rw [this]
        exact .sl0 trivial
      · have ho := ho (by omega)
        subst ho
        refine .sl (sz := sz) hl.symm hs (h.ones h1') (FrzC.vrs hr h ((hv.drop (off * sz)).take (len * sz))) ?_ trivial (by omega)
        intro i v hv'
        rw [List.getElem?_take] at hv'
        split at hv'
        · rw [List.getElem?_drop, List.getElem?_take] at hv'
          split at hv'
          · obtain ⟨bs, hobj, _⟩ := hr.obj
            obtain ⟨hb, ⟨cap', _, _, hT', _⟩, _⟩ := hobj _ _ hi rfl
            rw [hT] at hT'
            simp only [Option.some.injEq, Prod.mk.injEq] at hT'
            obtain ⟨rfl, rfl⟩ := hT'
            show frzI w0 Γ w _ _ = _
            unfold frzI
            rw [if_pos hb, cell_in hw]
            simpa using hv'
          · cases hv'
        · cases hv'
  | .ptr (cs := cs) (off := off) hi h => by
    cases r with
    | @ptr _ _ b hB =>
      obtain ⟨vals, e, hw, hv, h1⟩ := hr.box hi hB
      refine .ref (h.ones fun x hx => h1 x (List.mem_of_mem_drop hx)) (FrzC.vrs hr h (hv.drop off)) ?_
      intro i v hv'
      rw [List.getElem?_drop] at hv'
      obtain ⟨bs, hobj, _⟩ := hr.obj
      obtain ⟨hb, hB', _⟩ := hobj _ _ hi rfl
      rw [hB] at hB'
      cases hB'
      show frzI w0 Γ w _ _ = _
      unfold frzI
      rw [if_pos hb, cell_in hw]
      simpa using hv'
theorem FrzC.vrs {w0 : Bs} {Γ : Gh} {H : List HO} {w : World} (hr : R w0 Γ H w) {xs ys : List AV} {vs : List Value} (h : FrzC H xs ys) (r : VRs Γ xs vs) : VRs (PI (frzI w0 Γ w)) ys vs :=
  match h with
  | .nil => by cases r; exact .nil
  | .cons h t => by
    cases r with
    | cons r rs => exact .cons (Frz.vr hr h r) (FrzC.vrs hr t rs)
end

/-- A call of plain values, out of its body's, what it has made stays. -/
theorem T.introF {P : Program} {f : FuncId} {args : List AV} {r : AV} (h : TS P f args [] fun r' H' => Frz H' r' r) : T P f args r := by
  refine fun I w vs hi hv => ?_
  have hr : R ⟨w, I⟩ (PI I) [] w := ⟨Below.refl _ _, hi, ⟨fun _ => 0, by simp, by simp⟩, fun _ _ => ⟨rfl, fun _ => rfl⟩, fun _ _ _ _ h => h⟩
  refine (h ⟨w, I⟩ (PI I) w vs hr hv).mono ?_
  rintro e w' ⟨Γ', v, r', H', rfl, le, h2, h3, h4⟩
  refine ⟨frzI ⟨w, I⟩ Γ' w', v, rfl, fun b o v h => frz_le h3 (le.I _ _ _ h), ?_, Frz.vr h3 h4 h2, h3.below⟩
  intro b o u hu
  unfold frzI at hu
  split at hu
  · rename_i hge; exact .inr ⟨hge, hu⟩
  · rename_i hlt; exact .inl (h3.old b o u (by simp at hlt; exact hlt) hu)

/-! values that look at no memory -/
mutual
def AV.fl : AV → Bool
  | .any | .bool _ | .int _ _ | .str _ | .nilp | .nilm | .nilf | .nili => true
  | .agg cs => AV.fls cs
  | .tup cs => AV.fls cs
  | _ => false
def AV.fls : List AV → Bool
  | [] => true
  | x :: xs => x.fl && AV.fls xs
end
mutual
theorem VR.fl {Γ Δ : Gh} {x : AV} {v : Value} (r : VR Γ x v) (h : x.fl = true) : VR Δ x v := by
  cases x <;> first | (simp [AV.fl] at h; done) | skip
  case any => exact .any _
  case bool => cases r; exact .bool _
  case int => cases r; exact .int _ _
  case str => cases r; exact .str _
  case nilp => cases r; exact .nilp
  case nilm => cases r; exact .nilm
  case nilf => cases r; exact .nilf
  case nili => cases r; exact .nili
  case agg cs =>
    cases r with
    | agg h1 r => exact .agg h1 (VRs.fl r (by simpa [AV.fl] using h))
  case tup cs =>
    cases r with
    | tup r => exact .tup (VRs.fl r (by simpa [AV.fl] using h))
theorem VRs.fl {Γ Δ : Gh} {xs : List AV} {vs : List Value} (r : VRs Γ xs vs) (h : AV.fls xs = true) : VRs Δ xs vs := by
  cases xs with
  | nil => cases r; exact .nil
  | cons x xs =>
    cases r with
    | cons r t =>
      simp [AV.fls] at h
      exact .cons (VR.fl r h.1) (VRs.fl t h.2)
end
/-- A call that reads what may still be written, and tells a value that looks at no memory. -/
theorem TS.callF {P : Program} {f : FuncId} {args ys : List AV} {H : List HO} {K : AV → List HO → Prop} {r : AV} (h : T P f ys r) (hc : FrzC H args ys) (hf : r.fl = true) (hk : K r H) : TS P f args H K := by
  intro w0 Γ w vs hr hv
  have hv' := FrzC.vrs hr hc hv
  refine (h (frzI w0 Γ w) w vs (fun b o v h => ?_) hv').mono ?_
  · unfold frzI at h
    split at h
    · exact h
    · exact hr.imm _ _ _ h
  · rintro e w' ⟨I', v, rfl, h1, h2, h3, h4⟩
    exact ⟨Γ, v, r, H, rfl, Gh.Le.refl Γ, h3.fl hf, hr.drew h4, hk⟩

/-! #### rows of plain values -/
theorem FrzC.refl {H : List HO} : ∀ {xs : List AV}, (∀ x, x ∈ xs → Cl1 x x) → FrzC H xs xs
  | [], _ => .nil
  | x :: xs, h => .cons (.cl (h x (List.mem_cons_self ..))) (FrzC.refl fun y hy => h y (List.mem_cons_of_mem _ hy))
theorem Frz.row {H : List HO} {id n sz : Nat} {cs ys : List AV} (hi : H[id]? = some (.row n sz cs)) (hc : cs = ys.flatMap AV.cells) (hl : ys.length = n) (hs : ∀ y, y ∈ ys → y.cells.length = sz) (hp : ∀ x, x ∈ cs → Cl1 x x) : Frz H (.mv id n sz 0 n) (.sl .no ys) := by
  subst hc
  have hlen : (ys.flatMap AV.cells).length = n * sz := by
    rw [← hl]; clear hl hp hi
    induction ys with
    | nil => simp
    | cons y ys ih => rw [List.flatMap_cons, List.length_append, hs y (List.mem_cons_self ..), ih fun z hz => hs z (List.mem_cons_of_mem _ hz), List.length_cons, Nat.add_mul]; omega
  refine .mv hi ?_ hl hs
  rw [Nat.zero_mul, List.drop_zero, List.take_of_length_le (by omega)]
  exact FrzC.refl hp
theorem Frz.of_cl2 {H : List HO} {x y : AV} (h : Cl2 x y) : Frz H x y := by
  unfold Cl2 at h
  split at h
  · rename_i cs ds
    refine .agg ?_
    revert h
    induction cs generalizing ds with
    | nil => intro h; cases ds with | nil => exact .nil | cons => exact h.elim
    | cons c cs ih => intro h; cases ds with | nil => exact h.elim | cons d ds => exact .cons (.cl h.1) (ih _ h.2)
  · exact .cl h
theorem Frz.of_cls2 {H : List HO} : ∀ {xs ys : List AV}, Cls2 xs ys → FrzC H xs ys
  | [], [], _ => .nil
  | _ :: _, _ :: _, h => .cons (.of_cl2 h.1) (Frz.of_cls2 h.2)

theorem getElem?_set_same {α : Type} {H : List α} {i : Nat} {a o : α} (h : H[i]? = some o) : (H.set i a)[i]? = some a := by
  rw [List.getElem?_set_self (List.getElem?_eq_some_iff.1 h).1]
theorem getElem?_app {α : Type} {H l : List α} {i : Nat} {a : α} (h : H[i]? = some a) : (H ++ l)[i]? = some a := by
  rw [List.getElem?_append_left (List.getElem?_eq_some_iff.1 h).1, h]

/-! #### functions that the machine knows itself -/
theorem T.extern {P : Program} {f : FuncId} {args : List AV} {r : AV} (h : ∀ Γ vs, VRs Γ args vs → ∃ v, (∀ w, (callFunc f vs.toArray).run P w = .ok (.value v) w) ∧ ∀ Δ, VR Δ r v) : T P f args r := by
  intro I w vs hi hv
  obtain ⟨v, h1, h2⟩ := h _ vs hv
  exact .inr ⟨v, h1 w, I, v, rfl, fun _ _ _ h => h, fun _ _ _ h => .inl h, h2 _, Below.refl _ _⟩

/-! #### what says less, deep within -/
theorem Cl.agg {cs ds : List AV} (h : Cls cs ds) (h1 : AV.ones cs → AV.ones ds) : Cl (.agg cs) (.agg ds) := fun Γ v r => by
  cases r with
  | agg ho r => exact .agg (h1 ho) (h.VRs r)
theorem Cl.tup {cs ds : List AV} (h : Cls cs ds) : Cl (.tup cs) (.tup ds) := fun Γ v r => by
  cases r with
  | tup r => exact .tup (h.VRs r)
theorem Cl.sl {own : Own} {xs ys : List AV} (h : Cls (xs.flatMap AV.cells) (ys.flatMap AV.cells)) (hl : xs.length = ys.length) (hs : ∀ n, (∀ x, x ∈ xs → x.cells.length = n) → ∀ y, y ∈ ys → y.cells.length = n)
    (h1 : AV.ones (xs.flatMap AV.cells) → AV.ones (ys.flatMap AV.cells)) : Cl (.sl own xs) (.sl .no ys) := fun Γ v r => by
  cases r with
  | sl0 ho =>
    have : ys = [] := List.eq_nil_of_length_eq_zero hl.symm
    rw [this]
    exact .sl0 trivial
  | sl hn hs' h1' r hi ho hc => exact .sl (by rw [hn, hl]) (hs _ hs') (h1 h1') (h.VRs r) hi trivial hc
end Go.Proofs.Ytgmhmdmfnmlhmaa.PL

namespace Go.Proofs.Ytgmhmdmfnmlhmaa.PL
open Go.RowKit

/-! ### lists of things of one kind -/
def avs {α : Type} (f : α → AV) (l : List α) : List AV := l.map f
section avs
variable {α : Type} {f : α → AV} {l m : List α}
theorem avs_eq : avs f l = l.map f := rfl
@[simp] theorem avs_nil : avs f [] = [] := rfl
@[simp] theorem avs_cons {a : α} : avs f (a :: l) = f a :: avs f l := rfl
@[simp] theorem avs_length : (avs f l).length = l.length := by simp [avs]
@[simp] theorem avs_append : avs f l ++ avs f m = avs f (l ++ m) := by simp [avs]
@[simp] theorem avs_concat {a : α} : avs f l ++ [f a] = avs f (l ++ [a]) := by simp [avs]
@[simp] theorem avs_getElem? {i : Nat} : (avs f l)[i]? = l[i]?.map f := by simp [avs]
@[simp] theorem avs_getElem {i : Nat} (h : i < (avs f l).length) : (avs f l)[i] = f (l[i]'(by simpa using h)) := by simp [avs]
theorem avs_getD {i : Nat} {d : AV} (h : i < l.length) : (avs f l).getD i d = f l[i] := by simp [avs, h]
@[simp] theorem avs_take {i : Nat} : (avs f l).take i = avs f (l.take i) := by simp [avs]
@[simp] theorem avs_drop {i : Nat} : (avs f l).drop i = avs f (l.drop i) := by simp [avs]
@[simp] theorem avs_reverse : (avs f l).reverse = avs f l.reverse := by simp [avs]
@[simp] theorem avs_set {i : Nat} {a : α} : (avs f l).set i (f a) = avs f (l.set i a) := by simp [avs, List.map_set]
@[simp] theorem avs_eq_nil : avs f l = [] ↔ l = [] := by simp [avs]
theorem mem_avs {x : AV} : x ∈ avs f l ↔ ∃ a, a ∈ l ∧ f a = x := by simp [avs]
theorem avs_map {β : Type} {g : β → α} {k : List β} : avs f (k.map g) = avs (fun b => f (g b)) k := by simp [avs]
/-- how many cells each has -/
class Sized {α : Type} (f : α → AV) (n : outParam Nat) : Prop where
  size : ∀ a, (f a).cells.length = n
/-- that each hangs on no object -/
class Plain {α : Type} (f : α → AV) : Prop where
  pl : ∀ a, (f a).pl = true
@[simp] theorem avs_sized {n : Nat} [h : Sized f n] : (∀ x, x ∈ avs f l → x.cells.length = n) = True := eq_true fun x hx => by obtain ⟨a, _, rfl⟩ := mem_avs.1 hx; exact h.size a
@[simp] theorem avs_pls [h : Plain f] : AV.pls (avs f l) = true := by rw [AV.pls_iff]; intro x hx; obtain ⟨a, _, rfl⟩ := mem_avs.1 hx; exact h.pl a
end avs
instance {k : IntKind} : Sized (AV.int k) 1 := ⟨fun _ => rfl⟩
instance {k : IntKind} : Plain (AV.int k) := ⟨fun _ => rfl⟩
instance : Sized AV.str 1 := ⟨fun _ => rfl⟩
instance : Plain AV.str := ⟨fun _ => rfl⟩
instance : Sized AV.bool 1 := ⟨fun _ => rfl⟩
instance : Plain AV.bool := ⟨fun _ => rfl⟩
instance {α : Type} {g : α → List AV} {o : Own} : Sized (fun a => AV.sl o (g a)) 1 := ⟨fun _ => rfl⟩
theorem avs_flat1 {α : Type} {f : α → AV} {l : List α} (h : ∀ a, (f a).cells = [f a]) : (avs f l).flatMap AV.cells = avs f l := by
  induction l with
  | nil => rfl
  | cons a l ih => rw [avs_cons, List.flatMap_cons, ih, h]; rfl
@[simp] theorem avs_flat_int {k : IntKind} {l : List Int} : (avs (AV.int k) l).flatMap AV.cells = avs (AV.int k) l := avs_flat1 fun _ => rfl
@[simp] theorem avs_flat_str {l : List ByteArray} : (avs AV.str l).flatMap AV.cells = avs AV.str l := avs_flat1 fun _ => rfl
@[simp] theorem avs_flat_bool {l : List Bool} : (avs AV.bool l).flatMap AV.cells = avs AV.bool l := avs_flat1 fun _ => rfl
@[simp] theorem avs_flat_sl {α : Type} {g : α → List AV} {o : Own} {l : List α} : (avs (fun a => AV.sl o (g a)) l).flatMap AV.cells = avs (fun a => AV.sl o (g a)) l := avs_flat1 fun _ => rfl

abbrev ints' (l : List Int) : List AV := avs (AV.int .i64) l
/-- one round more: what is taken -/
theorem take_next {α : Type} {l : List α} {i : Nat} (h : i < l.length) : l.take (i + 1) = l.take i ++ [l[i]] := List.take_succ_eq_append_getElem h
theorem wrap_next {i : Nat} {n : Nat} (h : i < n) (hn : n < 9223372036854775807) : IntKind.i64.wrap ((i : Int) + 1) = ((i + 1 : Nat) : Int) := by rw [wrap_i64 (by omega) (by omega)]; rfl
end Go.Proofs.Ytgmhmdmfnmlhmaa.PL

namespace Go.Proofs.Ytgmhmdmfnmlhmaa.PL
open Go.RowKit

/-! ### two arrays of two numbers -/
theorem EqT.pair {P : Program} {t e : TypeId} {k : IntKind} (hu : P.underlying t = some (.array 2 e)) (he : P.underlying e = some (.int k)) (hn : szOf P e = some 1) (ha : aggOf P e = some false) (hg : P.eqGuardType P.depth t = false) {a b c d : Int} : EqT P t [.int k a, .int k b] [.int k c, .int k d] := by
  intro Γ vs us w hv hu'
  refine ⟨fun op x y => run_eqGuard_agg w op t x y _ _ hg, ?_⟩
  cases hv with
  | cons v1 hv => cases hv with
    | cons v2 hv =>
      cases hv; cases v1; cases v2
      cases hu' with
      | cons u1 hu' => cases hu' with
        | cons u2 hu' =>
          cases hu'; cases u1; cases u2
          obtain ⟨i, hi, hsz⟩ := Option.map_eq_some_iff.1 hn
          have hc : P.cellsOf e = 1 := by simp [Program.cellsOf, hi, hsz]
          have h0 := run_equalIn_array (P := P) (w := w) 9999 [Value.int k a, .int k b].toArray [Value.int k c, .int k d].toArray hu hi
          rw [show (Op.equal t (.agg _) (.agg _)) = Op.equalIn (9999 + 1) t (.agg [Value.int k a, .int k b].toArray) (.agg [Value.int k c, .int k d].toArray) from rfl, h0, hc]
          have p1 := run_part_one (P := P) ha (cs := [Value.int k a, .int k b].toArray) (o := 0) (v := .int k a) rfl w
          have p2 := run_part_one (P := P) ha (cs := [Value.int k a, .int k b].toArray) (o := 1) (v := .int k b) rfl w
          have p3 := run_part_one (P := P) ha (cs := [Value.int k c, .int k d].toArray) (o := 0) (v := .int k c) rfl w
          have p4 := run_part_one (P := P) ha (cs := [Value.int k c, .int k d].toArray) (o := 1) (v := .int k d) rfl w
          have q1 := run_equalIn_int (P := P) w 9998 e k k a c he
          have q2 := run_equalIn_int (P := P) w 9998 e k k b d he
          show (Op.eqItems (9998 + 1) e 1 _ _ [0, 1]).run P w = _
          simp only [Op.eqItems, Sem.run_bind, Nat.zero_mul, Nat.one_mul, p1, p3, q1, Result.andThen_ok, eqCells]
          by_cases h : a = c
          · subst h
            simp only [beq_self_eq_true, Bool.not_true, Bool.false_eq_true, if_false, Sem.run_bind, p2, p4, q2, Result.andThen_ok]
            by_cases h2 : b = d
            · subst h2; simp [Op.eqItems]
            · simp [h2]
          · simp [h]
end Go.Proofs.Ytgmhmdmfnmlhmaa.PL
