/- A logic of plain values for functions of the program: what it shows of a function's code holds of each run (part b). -/
import Derived.Test.YtgmhmdmfnmlhmaaPLa
import Derived.Laws.IdiomStrings
import Derived.Laws.Append
set_option linter.unusedVariables false
set_option linter.unusedSimpArgs false
namespace Go.Proofs.Ytgmhmdmfnmlhmaa.PL
open Go.RowKit

/-! ### variables: a new one, a load, a store -/
theorem box_run {P : Program} {w0 : Bs} {Γ : Gh} {H : List HO} {w : World} {e : TypeId} {x : AV} {u : Value} (hr : R w0 Γ H w) (hx : VR Γ x u) (hok : x.okc = true) :
    ∃ Γ' v w', (Instr.box e u).run P w = .ok v w' ∧ Gh.Le Γ Γ' ∧ VR Γ' (.ptr H.length 0) v ∧ R w0 Γ' (H ++ [.box x.cells]) w' := by
  obtain ⟨h1, h2⟩ := hx.okc hok
  refine ⟨Γ.addB H.length w.heap.size, .pointer (some ⟨w.heap.size, 0, none⟩), w.alloc (.cells u.cells e), ?_, Gh.le_addB (hr.fresh _ (Nat.le_refl _)).1, ?_, hr.newBox e h1 h2⟩
  · simp only [Instr.box, newVar, newRow, Sem.run_bind, run_newObj, Result.andThen_ok, Sem.run_pure]; rfl
  · exact .ptr (by simp [Gh.addB])

theorem alloc_run {P : Program} {w0 : Bs} {Γ : Gh} {H : List HO} {w : World} {e : TypeId} {z : AV} (hr : R w0 Γ H w) (hz : zOf P e = some z) (hok : z.okc = true) :
    ∃ Γ' v w', (Instr.alloc e true (.tuple #[])).run P w = .ok v w' ∧ Gh.Le Γ Γ' ∧ VR Γ' (.ptr H.length 0) v ∧ R w0 Γ' (H ++ [.box z.cells]) w' := by
  obtain ⟨zv, hzr, hzv⟩ := zOf_run hz w
  obtain ⟨Γ', v, w', h1, h2⟩ := box_run (P := P) (e := e) hr (hzv Γ) hok
  refine ⟨Γ', v, w', ?_, h2⟩
  rw [← h1]
  simp only [Instr.alloc, Instr.box, Sem.run_bind, hzr, Result.andThen_ok]

theorem R.box {w0 : Bs} {Γ : Gh} {H : List HO} {w : World} (hr : R w0 Γ H w) {i : Nat} {cs : List AV} (hi : H[i]? = some (.box cs)) {b : Nat} (hb : Γ.B i = some b) :
    ∃ vals e, w.heap[b]? = some (.cells vals e (0, 0)) ∧ VRs Γ cs vals.toList ∧ AV.ones cs := by
  obtain ⟨bs, hobj, _⟩ := hr.obj
  obtain ⟨_, h1, ⟨vals, e, h2, h3⟩, h4, _⟩ := hobj i _ hi rfl
  rw [hb] at h1
  cases h1
  exact ⟨vals, e, h2, h3, h4⟩

def ldV (P : Program) (t : TypeId) (cs : List AV) (off : Nat) : AV :=
  match aggOf P t, szOf P t with
  | some true, some n => .agg ((cs.drop off).take n)
  | some false, _ => cs.getD off .any
  | _, _ => .any
def ldS (P : Program) (t : TypeId) (cs : List AV) (off : Nat) : Prop :=
  match aggOf P t, szOf P t with
  | some true, some n => off + n ≤ cs.length
  | some false, _ => off < cs.length
  | _, _ => False

theorem cell_in {w : World} {b : Nat} {vals : Array Value} {e : TypeId} {f : Nat × Nat} (h : w.heap[b]? = some (.cells vals e f)) (o : Nat) : w.cell? ⟨b, o, none⟩ = vals[o]? := by
  simp [World.cell?, h]

theorem ld_run {P : Program} {w0 : Bs} {Γ : Gh} {H : List HO} {w : World} {t : TypeId} {i off : Nat} {cs : List AV} {u : Value} (hr : R w0 Γ H w) (hx : VR Γ (.ptr i off) u) (hi : H[i]? = some (.box cs)) (hs : ldS P t cs off) :
    ∃ v, (Instr.loadAt t u).run P w = .ok v w ∧ VR Γ (ldV P t cs off) v := by
  cases hx with
  | @ptr _ _ b hb =>
  obtain ⟨vals, e, hw, hv, h1⟩ := hr.box hi hb
  unfold ldS at hs
  unfold ldV
  split at hs
  · rename_i n ha hn
    have hlen := hv.length
    have hl : (loadCells ⟨b, off, none⟩ n).run P w = .ok ((vals.toList.drop off).take n).toArray w := by
      have := run_loadCells_list (P := P) w ⟨b, off, none⟩ ((vals.toList.drop off).take n) (fun j v hj => by
        rw [addr_add, cell_in hw]
        rw [List.getElem?_take] at hj
        split at hj
        · rw [List.getElem?_drop] at hj; simpa using hj
        · cases hj)
      rwa [List.length_take, Nat.min_eq_left (by rw [List.length_drop]; omega)] at this
    refine ⟨.agg ((vals.toList.drop off).take n).toArray, by simp only [Instr.loadAt, Instr.sureAddr, Sem.run_bind, Sem.run_pure, Result.andThen_ok, loadVar, run_isAgg' ha, if_true, run_sizeOf' hn, hl], ?_⟩
    exact .agg (fun x hx => h1 x (List.mem_of_mem_drop (List.mem_of_mem_take hx))) ((hv.drop off).take n)
  · rename_i ha
    obtain ⟨v, hv1, hv2⟩ := hv.getD hs
    refine ⟨v, ?_, hv2⟩
    have hc : w.cell? ⟨b, off, none⟩ = some v := by rw [cell_in hw]; simpa using hv1
    simp only [Instr.loadAt, Instr.sureAddr, Sem.run_bind, Sem.run_pure, Result.andThen_ok, loadVar, run_isAgg' ha, Bool.false_eq_true, if_false, run_load, hc]
  · exact hs.elim

theorem grownBy_setRow (w : World) (b : Nat) (cur : Array Value) : w.grownBy (w.setRow b cur) (some b) :=
  ⟨rfl, rfl, rfl, by simp [World.setRow], fun k hk hne => by
    have : k ≠ b := by simpa using hne
    simp only [World.setRow, Array.getElem?_modify]
    rw [if_neg (fun e => this e.symm)]⟩

theorem st_run {P : Program} {w0 : Bs} {Γ : Gh} {H : List HO} {w : World} {t : TypeId} {i off : Nat} {cs : List AV} {x : AV} {u v : Value} (hr : R w0 Γ H w) (hp : VR Γ (.ptr i off) u) (hx : VR Γ x v)
    (hi : H[i]? = some (.box cs)) (hok : x.okc = true) (hn : szOf P t = some x.cells.length) (hf : off + x.cells.length ≤ cs.length) :
    ∃ w', (Instr.storeAt t u v).run P w = .ok () w' ∧ R w0 Γ (H.set i (.box (splice cs off x.cells))) w' := by
  cases hp with
  | @ptr _ _ b hb =>
  obtain ⟨hxc, hx1⟩ := hx.okc hok
  have hxl : v.cells.toList.length = x.cells.length := hxc.length.symm
  obtain ⟨b', hb0, hbl, hat, hput⟩ := hr.put hi rfl
  obtain ⟨hB, ⟨vals, e, hw, hv⟩, h1, hI⟩ := hat
  rw [hb] at hB
  cases hB
  have hlen := hv.length
  have hst := run_storeCells_at (P := P) b off e v.cells.toList 0 vals w hw (by simp only [Nat.add_zero]; rw [hxl, ← Array.length_toList, ← hlen]; exact hf) (fun c hc => hxc.one hx1 c hc)
  simp only [Nat.add_zero] at hst
  refine ⟨w.setRow b (vals.toList.take off ++ v.cells.toList ++ vals.toList.drop (off + v.cells.toList.length)).toArray, ?_, ?_⟩
  · have hsz : ¬ v.cells.size ≠ x.cells.length := by rw [← hxl, Array.length_toList]; simp
    simp only [Instr.storeAt, Instr.sureAddr, Sem.run_bind, Sem.run_pure, Result.andThen_ok, storeVar, run_sizeOf' hn, if_neg hsz, hst]
  · refine hput _ b Γ _ (grownBy_setRow w b _) (Gh.Le.refl Γ) (.inl rfl) ?_ ?_ (fun _ => rfl) (fun _ _ => rfl)
    · intro _
      refine ⟨hb, ⟨_, e, setRow_heap w b vals _ e (0, 0) hw, ?_⟩, ?_, hI⟩
      · show VRs Γ (splice cs off x.cells) (vals.toList.take off ++ v.cells.toList ++ vals.toList.drop (off + v.cells.toList.length))
        unfold splice
        rw [hxl]
        exact ((hv.take off).append hxc).append (hv.drop _)
      · intro y hy
        simp only [splice, List.mem_append] at hy
        rcases hy with (hy | hy) | hy
        · exact h1 y (List.mem_of_mem_take hy)
        · exact hx1 y hy
        · exact h1 y (List.mem_of_mem_drop hy)
    · intro c o v h
      refine .inl ⟨h, ?_⟩
      rintro rfl
      rw [hI] at h; cases h

/-! ### calls -/
def Callable (P : Program) (f : FuncId) : Prop := ∃ fn, P.funcs[f]? = some fn ∧ (fn.name == "runtime.NumGoroutine") = false ∧ fn.body.isSome = true

/-- What a call does, told: from whatever memory that fits. -/
def TS (P : Program) (f : FuncId) (args : List AV) (H : List HO) (K : AV → List HO → Prop) : Prop :=
  Callable P f ∧ ∀ (w0 : Bs) (Γ : Gh) (w : World) (vs : List Value), R w0 Γ H w → VRs Γ args vs →
    Calls P f vs.toArray w fun e w' => ∃ Γ' v r H', e = .returned v ∧ Gh.Le Γ Γ' ∧ VR Γ' r v ∧ R w0 Γ' H' w' ∧ K r H'

def PI (I : Nat → Nat → Option Value) : Gh := ⟨I, fun _ => none, fun _ _ => none⟩

/-- A call of plain values that tells a plain value. -/
def T (P : Program) (f : FuncId) (args : List AV) (r : AV) : Prop :=
  Callable P f ∧ ∀ (I : Nat → Nat → Option Value) (w : World) (vs : List Value), (∀ b o v, I b o = some v → w.cell? ⟨b, o, none⟩ = some v) → VRs (PI I) args vs →
    Calls P f vs.toArray w fun e w' => ∃ I' v, e = .returned v ∧ (∀ b o v, I b o = some v → I' b o = some v) ∧ (∀ b o v, I' b o = some v → I b o = some v ∨ (w.heap.size ≤ b ∧ w'.cell? ⟨b, o, none⟩ = some v)) ∧
      VR (PI I') r v ∧ Below w.heap.size w w'

/-- A plain value that says no more than another. -/
def Cl (x y : AV) : Prop := ∀ Γ v, VR Γ x v → VR (PI Γ.I) y v
inductive Cls : List AV → List AV → Prop
  | nil : Cls [] []
  | cons {x y : AV} {xs ys : List AV} (h : Cl x y) (t : Cls xs ys) : Cls (x :: xs) (y :: ys)
theorem Cls.VRs {Γ : Gh} : ∀ {xs ys : List AV} {vs : List Value}, Cls xs ys → VRs Γ xs vs → VRs (PI Γ.I) ys vs
  | _, _, _, .nil, .nil => .nil
  | _, _, _, .cons h t, .cons r u => .cons (h _ _ r) (t.VRs u)

theorem TS.of_T {P : Program} {f : FuncId} {args ys : List AV} {H : List HO} {K : AV → List HO → Prop} {r : AV} (h : T P f ys r) (hc : Cls args ys) (hk : K r H) : TS P f args H K := by
  refine ⟨h.1, fun w0 Γ w vs hr hv => (h.2 Γ.I w vs hr.imm (hc.VRs hv)).mono ?_⟩
  rintro e w' ⟨I', v, rfl, h1, h2, h3, h4⟩
  have le : Gh.Le Γ { Γ with I := I' } := ⟨h1, fun _ _ h => h, fun _ _ _ h => h⟩
  refine ⟨{ Γ with I := I' }, v, r, H, rfl, le, VR.mono (Γ := PI I') (Δ := { Γ with I := I' }) ⟨fun _ _ _ h => h, fun _ _ h => (by cases h), fun _ _ _ h => (by cases h)⟩ h3, ?_, hk⟩
  exact hr.more h4 le h2 rfl rfl

theorem TS.mono {P : Program} {f : FuncId} {args : List AV} {H : List HO} {K K' : AV → List HO → Prop} (h : TS P f args H K) (hk : ∀ r H', K r H' → K' r H') : TS P f args H K' :=
  ⟨h.1, fun w0 Γ w vs hr hv => (h.2 w0 Γ w vs hr hv).mono fun e w' ⟨Γ', v, r, H', h1, h2, h3, h4, h5⟩ => ⟨Γ', v, r, H', h1, h2, h3, h4, hk _ _ h5⟩⟩

/-- A call of plain values, out of its body's. -/
theorem T.of_TS {P : Program} {f : FuncId} {args : List AV} {r : AV} (h : TS P f args [] fun r' _ => Cl r' r) : T P f args r := by
  refine ⟨h.1, fun I w vs hi hv => ?_⟩
  have hr : R ⟨w, I⟩ (PI I) [] w := ⟨Below.refl _ _, hi, ⟨fun _ => 0, by simp, by simp⟩, fun _ _ => ⟨rfl, fun _ => rfl⟩, fun _ _ _ _ h => h⟩
  have hc := h.2 ⟨w, I⟩ (PI I) w vs hr hv
  refine hc.mono ?_
  rintro e w' ⟨Γ', v, r', H', rfl, le, h2, h3, h4⟩
  refine ⟨Γ'.I, v, rfl, le.I, ?_, h4 _ _ h2, h3.below⟩
  intro b o u hu
  rcases Nat.lt_or_ge b w.heap.size with hlt | hge
  · exact .inl (h3.old b o u hlt hu)
  · exact .inr ⟨hge, h3.imm b o u hu⟩

end Go.Proofs.Ytgmhmdmfnmlhmaa.PL

namespace Go.Proofs.Ytgmhmdmfnmlhmaa.PL
open Go.RowKit

/-! ### len, min, max, not, conversions -/
def lenV (x : AV) : AV := match x with | .sl _ xs => .int .i64 xs.length | .str s => .int .i64 s.size | _ => .any
def lenS (P : Program) (t : TypeId) (x : AV) : Prop :=
  match x with
  | .sl _ _ => match P.underlying t with | some (.slice _) => True | _ => False
  | .str _ => P.underlying t = some .string
  | _ => False
def mnV (x y : AV) : AV := match x, y with | .int k a, .int _ b => .int k (if b < a then b else a) | _, _ => .any
def mxV (x y : AV) : AV := match x, y with | .int k a, .int _ b => .int k (if b > a then b else a) | _, _ => .any
def mmS (x y : AV) : Prop := match x, y with | .int k _, .int k' _ => k = k' | _, _ => False
def unV (op : UnOp) (x : AV) : AV :=
  match op, x with
  | .not, .bool b => .bool (!b)
  | .neg, .int k n => .int k (k.wrap (0 - n))
  | _, _ => .any
def unS (op : UnOp) (x : AV) : Prop := match op, x with | .not, .bool _ => True | .neg, .int _ _ => True | _, _ => False
def avByte (y : AV) : UInt8 := match y with | .int _ n => UInt8.ofNat n.toNat | _ => 0
def isByte (y : AV) : Prop := match y with | .int .u8 n => 0 ≤ n ∧ n < 256 | _ => False
def cvV (P : Program) (s d : TypeId) (x : AV) : AV :=
  match x with
  | .int _ n => match P.underlying d with | some (.int k) => .int k (k.wrap n) | _ => .any
  | .str s => .str s
  | .sl _ ys => .str ⟨(ys.map avByte).toArray⟩
  | _ => .any
def cvS (P : Program) (s d : TypeId) (x : AV) : Prop :=
  match x with
  | .int _ _ => (match P.underlying s with | some _ => True | none => False) ∧ match P.underlying d with | some (.int _) => True | _ => False
  | .str _ => P.underlying s = some .string ∧ P.underlying d = some .string
  | .sl _ ys => (match P.underlying s with | some (.slice e) => P.underlying e = some (.int .u8) | _ => False) ∧ P.underlying d = some .string ∧ ∀ y, y ∈ ys → isByte y
  | _ => False

theorem len_run {P : Program} {Γ : Gh} {w : World} {t : TypeId} {ts : Array TypeId} {ty : TypeId} {x : AV} {u : Value} (ht : ts[0]? = some t) (hs : lenS P t x) (hx : VR Γ x u) :
    ∃ v, (Builtin.len_ ts ty #[u]).run P w = .ok v w ∧ VR Γ (lenV x) v := by
  unfold lenS at hs
  split at hs
  · obtain ⟨a, cap, rfl, _⟩ := hx.sl_inv
    split at hs
    · rename_i e hu
      refine ⟨.int .i64 _, ?_, .int _ _⟩
      simp [Builtin.len_, ht, run_underlying' hu, goInt]
    · exact hs.elim
  · cases hx
    refine ⟨.int .i64 _, ?_, .int _ _⟩
    simp [Builtin.len_, ht, run_underlying' hs, goInt]
  · exact hs.elim

theorem mn_run {P : Program} {Γ : Gh} {w : World} {x y : AV} {u v : Value} (hs : mmS x y) (hx : VR Γ x u) (hy : VR Γ y v) : ∃ r, (Builtin.min2 u v).run P w = .ok r w ∧ VR Γ (mnV x y) r := by
  unfold mmS at hs
  split at hs
  · cases hx; cases hy; exact ⟨_, rfl, .int _ _⟩
  · exact hs.elim
theorem mx_run {P : Program} {Γ : Gh} {w : World} {x y : AV} {u v : Value} (hs : mmS x y) (hx : VR Γ x u) (hy : VR Γ y v) : ∃ r, (Builtin.max2 u v).run P w = .ok r w ∧ VR Γ (mxV x y) r := by
  unfold mmS at hs
  split at hs
  · cases hx; cases hy; exact ⟨_, rfl, .int _ _⟩
  · exact hs.elim
theorem un_run {P : Program} {Γ : Gh} {w : World} {op : UnOp} {x : AV} {u : Value} (hs : unS op x) (hx : VR Γ x u) : ∃ r, (Op.unary op u).run P w = .ok r w ∧ VR Γ (unV op x) r := by
  unfold unS at hs
  split at hs
  · cases hx; exact ⟨_, rfl, .bool _⟩
  · cases hx; exact ⟨_, rfl, .int _ _⟩
  · exact hs.elim
theorem cv_run {P : Program} {Γ : Gh} {w : World} {s d : TypeId} {x : AV} {u : Value} (hi : ∀ b o v, Γ.I b o = some v → w.cell? ⟨b, o, none⟩ = some v) (hs : cvS P s d x) (hx : VR Γ x u) : ∃ r, (convert s d u).run P w = .ok r w ∧ VR Γ (cvV P s d x) r := by
  unfold cvS at hs
  split at hs
  · obtain ⟨h1, h2⟩ := hs
    split at h1
    · rename_i ds hds
      split at h2
      · rename_i k hk
        cases hx
        unfold cvV
        simp only [hk]
        refine ⟨_, ?_, .int _ _⟩
        cases ds <;> simp [convert, run_underlying' hds, run_underlying' hk, Conv.intToInt] <;> rfl
      · exact h2.elim
    · exact h1.elim
  · cases hx
    exact ⟨_, by simp [convert, run_underlying' hs.1, run_underlying' hs.2], .str _⟩
  · rename_i own ys
    obtain ⟨h1, h2, h3⟩ := hs
    split at h1
    · rename_i e he
      unfold cvV
      have hb : ∀ y, y ∈ ys → y = .int .u8 ((avByte y).toNat : Int) := by
        intro y hy
        have := h3 y hy
        unfold isByte at this
        split at this
        · rename_i n
          simp only [avByte]
          congr 1
          have : n.toNat % 256 = n.toNat := Nat.mod_eq_of_lt (by omega)
          simp [UInt8.toNat_ofNat', this]
          omega
        · exact this.elim
      have hys : ys = (ys.map avByte).map fun b => .int .u8 (b.toNat : Int) := by
        rw [List.map_map]
        conv => lhs; rw [← List.map_id ys]
        exact List.map_congr_left fun y hy => hb y hy
      obtain ⟨a, cap, rfl, ho, hc, hn⟩ := hx.sl_inv
      refine ⟨.string ⟨(ys.map avByte).toArray⟩, ?_, .str _⟩
      by_cases h0 : ys = []
      · subst h0
        cases a with
        | none => rw [run_convert_bytes_string w s d e none _ cap he h1 h2]; rfl
        | some a => exact run_convert_bytes_back w s d e a cap [] he h1 h2 (fun j hj => absurd hj (by simp))
      · obtain ⟨b, o, sz, vs, rfl, k1, k2, k3, k4⟩ := hn h0
        have := run_convert_bytes_back w s d e ⟨b, o, none⟩ cap (ys.map avByte) he h1 h2 ?_
        · rw [List.length_map] at this; exact this
        · intro j hj
          have hfl : ys.flatMap AV.cells = ys := by
            rw [hys]; generalize ys.map avByte = l
            induction l with
            | nil => rfl
            | cons b l ih => simp only [List.map_cons, List.flatMap_cons, ih]; rfl
          rw [hfl] at k3
          have hj' : j < ys.length := by simpa using hj
          obtain ⟨v, g1, g2⟩ := k3.get j ys[j] (List.getElem?_eq_getElem hj')
          have hyj := hb ys[j] (List.getElem_mem hj')
          rw [hyj] at g2
          cases g2
          have hadd : (⟨b, o, none⟩ : Addr).add j = ⟨b, o + j, none⟩ := by clear hn hi hb hys hx h3 k1 k2 k3 k4 g1 hyj hfl; unfold Addr.add; split <;> simp_all
          rw [hadd, hi _ _ _ (k4 j _ g1), List.getElem_map]
    · exact h1.elim
  · exact hs.elim

/-! ### all operations that change nothing -/
def nchkS (x : AV) : Prop := match x with | .ptr _ _ | .ref _ | .fn (.func _) _ _ => True | _ => False

def isP : Op → Bool
  | .move _ | .assign _ | .pick .. | .binOp .. | .unOp .. | .convert .. | .load .. | .fieldAddr .. | .field .. | .indexAddr .. | .index .. | .slice .. | .extract .. | .nilCheck _ | .build .. => true
  | .call { callee := .builtin .len, .. } | .call { callee := .builtin .min, .. } | .call { callee := .builtin .max, .. } => true
  | _ => false

def ldpV (P : Program) (t : TypeId) (x : AV) (H : List HO) : AV :=
  match x with
  | .ptr i off => match H[i]? with | some (.box cs) => ldV P t cs off | _ => .any
  | x => loadV P t x
def ldpS (P : Program) (t : TypeId) (x : AV) (H : List HO) : Prop :=
  match x with
  | .ptr i off => match H[i]? with | some (.box cs) => ldS P t cs off | _ => False
  | x => loadS P t x

def biV (b : Builtin) (xs : List AV) : AV :=
  match b, xs with
  | .len, [x] => lenV x
  | .min, [x, y] => mnV x y
  | .max, [x, y] => mxV x y
  | _, _ => .any
def biS (P : Program) (b : Builtin) (ts : Array TypeId) (xs : List AV) : Prop :=
  match b, xs with
  | .len, [x] => match ts[0]? with | some t => lenS P t x | none => False
  | .min, [x, y] => mmS x y
  | .max, [x, y] => mmS x y
  | _, _ => False

def pvOp (P : Program) (op : Op) (E : Ev) (H : List HO) : AV :=
  match op with
  | .move x | .assign x | .nilCheck x => E x
  | .pick c a b => pickV (E c) (E a) (E b)
  | .binOp op _ x y _ => binV op (E x) (E y)
  | .unOp op _ x => unV op (E x)
  | .convert s d x => cvV P s d (E x)
  | .load t a => ldpV P t (E a) H
  | .fieldAddr s a f => faV P s (E a) f
  | .field t x f => fdV P t (E x) f
  | .indexAddr t a i => iaV P t (E a) (E i)
  | .index t x i => ixV P t (E x) (E i)
  | .slice _ x lo hi mx => slcV (E x) (lo.map E) (hi.map E) (mx.map E)
  | .extract x i => exV (E x) i
  | .build t parts => bldV P t (parts.toList.map fun p => (p.1, E p.2))
  | .call { callee := .builtin b, args := xs, .. } => biV b (xs.toList.map E)
  | _ => .any
def psOp (P : Program) (op : Op) (E : Ev) (H : List HO) : Prop :=
  match op with
  | .move _ | .assign _ => True
  | .nilCheck x => nchkS (E x)
  | .pick c a b => pickS (E c) (E a) (E b)
  | .binOp op t x y _ => binS P op t (E x) (E y)
  | .unOp op _ x => unS op (E x)
  | .convert s d x => cvS P s d (E x)
  | .load t a => ldpS P t (E a) H
  | .fieldAddr s a f => faS P s (E a) f
  | .field t x f => fdS P t (E x) f
  | .indexAddr t a i => iaS P t (E a) (E i)
  | .index t x i => ixS P t (E x) (E i)
  | .slice t x lo hi mx => slcS P t (E x) (lo.map E) (hi.map E) (mx.map E)
  | .extract x i => exS (E x) i
  | .build t parts => bldS P t (parts.toList.map fun p => (p.1, E p.2))
  | .call { callee := .builtin b, args := xs, argTypes := ts } => biS P b ts (xs.toList.map E)
  | _ => False

theorem VRo.map {Γ : Gh} {E : Ev} {ρ : Operand → Value} {x : Option Operand} (h : ∀ y, x = some y → VR Γ (E y) (ρ y)) : VRo Γ (x.map E) (x.map ρ) := by
  cases x with
  | none => trivial
  | some y => exact h y rfl

theorem VRp.map {Γ : Gh} {E : Ev} {ρ : Operand → Value} : ∀ {l : List (Nat × Operand)}, (∀ p, p ∈ l → VR Γ (E p.2) (ρ p.2)) → VRp Γ (l.map fun p => (p.1, E p.2)) (l.map fun p => (p.1, ρ p.2))
  | [], _ => .nil
  | p :: l, h => .cons (h p (List.mem_cons_self ..)) (VRp.map fun q hq => h q (List.mem_cons_of_mem _ hq))

theorem VRs.map {Γ : Gh} {E : Ev} {ρ : Operand → Value} : ∀ {l : List Operand}, (∀ p, p ∈ l → VR Γ (E p) (ρ p)) → VRs Γ (l.map E) (l.map ρ)
  | [], _ => .nil
  | p :: l, h => .cons (h p (List.mem_cons_self ..)) (VRs.map fun q hq => h q (List.mem_cons_of_mem _ hq))

theorem pure_ok {P : Program} {o : Oper} {E : Ev} {H : List HO} (hp : isP o.op = true) (hs : psOp P o.op E H) : OpT P o E H (pvOp P o.op E H) H := by
  obtain ⟨dst, op, ty, pos, after, guard⟩ := o
  dsimp only at hp hs ⊢
  have key : ∀ (w0 : Bs) (Γ : Gh) (w : World) (ρ : Operand → Value), R w0 Γ H w → (∀ x, x ∈ op.operands → VR Γ (E x) (ρ x)) →
      ∃ v, (execOp ρ ⟨dst, op, ty, pos, after, guard⟩).run P w = .ok (.value v) w ∧ VR Γ (pvOp P op E H) v := by
    intro w0 Γ w ρ hr hx
    have lift : ∀ {s : Sem Value} {r : AV}, (∃ v, s.run P w = .ok v w ∧ VR Γ r v) → ∃ v, (do pure (Next.value (← s)) : Sem Next).run P w = .ok (.value v) w ∧ VR Γ r v := by
      rintro s r ⟨v, h1, h2⟩
      exact ⟨v, by simp [h1], h2⟩
    cases op <;> simp only [isP, Bool.false_eq_true] at hp <;> simp only [psOp] at hs <;> simp only [pvOp]
    case move x => exact ⟨ρ x, rfl, hx x (by simp [Op.operands])⟩
    case assign x => exact ⟨ρ x, rfl, hx x (by simp [Op.operands])⟩
    case pick c a b =>
      obtain ⟨v, h1, h2⟩ := pick_run (P := P) (w := w) hs (hx c (by simp [Op.operands])) (hx a (by simp [Op.operands])) (hx b (by simp [Op.operands]))
      refine ⟨v, ?_, h2⟩
      simp only [Sem.run_bind] at h1
      simp only [execOp, Sem.run_bind]
      cases hb : (asBool (ρ c)).run P w with
      | ok b' w' =>
        rw [hb] at h1
        simp only [Result.andThen_ok, Sem.run_pure, Result.ok.injEq] at h1 ⊢
        exact ⟨by rw [h1.1], h1.2⟩
      | halt h w' => rw [hb] at h1; simp at h1
    case binOp op t x y t2 => exact lift (run_bin w hs (hx x (by simp [Op.operands])) (hx y (by simp [Op.operands])))
    case unOp op t x => exact lift (un_run hs (hx x (by simp [Op.operands])))
    case convert s d x => exact lift (cv_run hr.imm hs (hx x (by simp [Op.operands])))
    case load t a =>
      have ha := hx a (by simp [Op.operands])
      generalize E a = z at ha hs
      by_cases hz : ∃ i off, z = .ptr i off
      · obtain ⟨i, off, rfl⟩ := hz
        simp only [ldpS] at hs
        simp only [ldpV]
        split at hs
        · rename_i cs hc
          exact lift (ld_run hr ha hc hs)
        · exact hs.elim
      · have e1 : ldpS P t z H = loadS P t z := by cases z <;> first | rfl | exact absurd ⟨_, _, rfl⟩ hz
        have e2 : ldpV P t z H = loadV P t z := by cases z <;> first | rfl | exact absurd ⟨_, _, rfl⟩ hz
        rw [e1] at hs
        rw [e2]
        exact lift (load_run hr.imm hs ha)
    case fieldAddr s a f => exact lift (fa_run hs (hx a (by simp [Op.operands])))
    case field t x f => exact lift (fd_run hs (hx x (by simp [Op.operands])))
    case indexAddr t a i => exact lift (ia_run hs (hx a (by simp [Op.operands])) (hx i (by simp [Op.operands])))
    case index t x i => exact lift (ix_run hs (hx x (by simp [Op.operands])) (hx i (by simp [Op.operands])))
    case slice t x lo hi mx =>
      refine lift (slc_run hs (hx x (by simp [Op.operands])) (VRo.map fun y hy => hx y ?_) (VRo.map fun y hy => hx y ?_) (VRo.map fun y hy => hx y ?_)) <;> (subst hy; simp [Op.operands])
    case extract x i => exact lift (ex_run hs (hx x (by simp [Op.operands])))
    case nilCheck x =>
      have h := hx x (by simp [Op.operands])
      refine ⟨ρ x, ?_, h⟩
      unfold nchkS at hs
      generalize hE : E x = z at hs h
      generalize hρ : ρ x = u at h
      cases h <;> first | exact hs.elim | (simp only [execOp, hρ]; rfl) | skip
      rename_i f _ _ _ _ _ _
      cases f <;> first | exact hs.elim | (simp only [execOp, hρ]; rfl)
    case build t parts =>
      have := bld_run (P := P) (Γ := Γ) (w := w) hs (VRp.map (ρ := ρ) (l := parts.toList) fun p hp => hx p.2 (by
        simp only [Op.operands, List.mem_toArray, List.mem_map]
        simp
        exact ⟨p.1, by simpa using hp⟩))
      have e : (parts.toList.map fun p => (p.1, ρ p.2)).toArray = parts.map fun p => (p.1, ρ p.2) := by
        apply Array.ext'; simp
      rw [e] at this
      exact lift this
    case call c =>
      obtain ⟨callee, xs, ts⟩ := c
      cases callee with
      | value f => simp only [isP, Bool.false_eq_true] at hp
      | invoke r m => simp only [isP, Bool.false_eq_true] at hp
      | builtin b =>
        have hxs : ∀ p, p ∈ xs.toList → VR Γ (E p) (ρ p) := fun p hp => hx p (by simp [Op.operands, Call.operands]; simpa using hp)
        simp only at hs
        obtain ⟨l⟩ := xs
        dsimp only at hs hxs ⊢
        unfold biS at hs
        split at hs
        · rename_i e
          match l, e, hxs with
          | [y], e, hxs =>
            simp at e; subst e
            split at hs
            · rename_i t ht
              obtain ⟨v, h1, h2⟩ := len_run (P := P) (w := w) (ty := ty) ht hs (hxs y (by simp))
              exact ⟨v, by simp [execOp, resolve, invoke, builtin, h1], h2⟩
            · exact hs.elim
        · rename_i e
          match l, e, hxs with
          | [y, z], e, hxs =>
            simp at e; obtain ⟨rfl, rfl⟩ := e
            obtain ⟨v, h1, h2⟩ := mn_run (P := P) (w := w) hs (hxs y (by simp)) (hxs z (by simp))
            exact ⟨v, by simp [execOp, resolve, invoke, builtin, Builtin.min_, h1], h2⟩
        · rename_i e
          match l, e, hxs with
          | [y, z], e, hxs =>
            simp at e; obtain ⟨rfl, rfl⟩ := e
            obtain ⟨v, h1, h2⟩ := mx_run (P := P) (w := w) hs (hxs y (by simp)) (hxs z (by simp))
            exact ⟨v, by simp [execOp, resolve, invoke, builtin, Builtin.max_, h1], h2⟩
        · exact hs.elim
  exact OpT.value fun w0 Γ w ρ hr hx => by
    obtain ⟨v, h1, h2⟩ := key w0 Γ w ρ hr hx
    exact ⟨Γ, v, w, h1, Gh.Le.refl Γ, h2, hr⟩

end Go.Proofs.Ytgmhmdmfnmlhmaa.PL

namespace Go.Proofs.Ytgmhmdmfnmlhmaa.PL
open Go.RowKit

/-! ### slices that grow -/
theorem sl_first {Γ : Gh} {own : Own} {ys : List AV} {v : Value} {sz : Nat} (hv : VR Γ (.sl own ys) v) (hs : ∀ y, y ∈ ys → y.cells.length = sz) :
    ∃ a cap vs, v = .slice a ys.length cap ∧ own.fits Γ ys.length a cap ∧ ys.length ≤ cap ∧ VRs Γ (ys.flatMap AV.cells) vs ∧ AV.ones (ys.flatMap AV.cells) ∧ vs.length = ys.length * sz ∧ (ys ≠ [] → ∃ b o, a = some ⟨b, o, none⟩ ∧ Γ.At b o vs) := by
  obtain ⟨a, cap, rfl, ho, hc, hn⟩ := hv.sl_inv
  by_cases h0 : ys = []
  · subst h0
    exact ⟨a, cap, [], rfl, ho, hc, .nil, (fun x h => by cases h), by simp, fun h => absurd rfl h⟩
  · obtain ⟨b, o, sz', vs, rfl, h1, h2, h3, h4⟩ := hn h0
    refine ⟨_, cap, vs, rfl, ho, hc, h3, h2, ?_, fun _ => ⟨b, o, rfl, h4⟩⟩
    rw [← h3.length]
    clear h3 h4 hn hv ho hc h1 h2
    induction ys with
    | nil => simp
    | cons y ys ih =>
      rw [List.flatMap_cons, List.length_append, hs y (List.mem_cons_self ..), List.length_cons, Nat.add_mul]
      by_cases h1 : ys = []
      · subst h1; simp
      · rw [ih (fun z hz => hs z (List.mem_cons_of_mem _ hz)) h1]; omega

theorem first_run {P : Program} {Γ : Gh} {ys : List AV} {vs : List Value} {a : Option Addr} {cap sz : Nat} (hl : vs.length = ys.length * sz) (ha : ys ≠ [] → ∃ b o, a = some ⟨b, o, none⟩ ∧ Γ.At b o vs) {w : World}
    (hi : ∀ b o v, Γ.I b o = some v → w.cell? ⟨b, o, none⟩ = some v) : (Builtin.firstCells sz ys.length (.slice a ys.length cap)).run P w = .ok vs.toArray w := by
  by_cases h0 : ys = []
  · subst h0
    have : vs = [] := List.eq_nil_of_length_eq_zero (by simpa using hl)
    subst this
    cases a with
    | none => simp [Builtin.firstCells]
    | some a => simp [Builtin.firstCells, loadCells, loadCellsFrom]
  · obtain ⟨b, o, rfl, h⟩ := ha h0
    exact run_firstCells_some (P := P) w sz ys.length ⟨b, o, none⟩ ys.length cap vs hl fun j u hu => by
      have hadd : (⟨b, o, none⟩ : Addr).add j = ⟨b, o + j, none⟩ := by unfold Addr.add; split <;> simp_all
      rw [hadd]
      exact hi _ _ _ (h j u hu)

theorem run_append_zero {P : Program} {t ty e : TypeId} {n : Nat} (w : World) (ht : P.underlying t = some (.slice e)) (hz : szOf P e = some n) (a1 a2 : Option Addr) (k cap c : Nat) (h : k ≤ cap) :
    (Builtin.append_ #[t, t] ty #[.slice a1 k cap, .slice a2 0 c]).run P w = .ok (.slice a1 k cap) w := by
  obtain ⟨i, hi, rfl⟩ := Option.map_eq_some_iff.1 hz
  have hf : (Builtin.firstCells i.size 0 (.slice a2 0 c)).run P w = .ok #[] w := by
    cases a2 with
    | none => simp [Builtin.firstCells]
    | some a => simp [Builtin.firstCells, loadCells, loadCellsFrom]
  cases a1 with
  | none => simp [Builtin.append_, run_underlying ht, sizeOf, typeInfo, hi, Builtin.lenOf, hf, h]
  | some a => simp [Builtin.append_, run_underlying ht, sizeOf, typeInfo, hi, Builtin.lenOf, hf, h, storeCells]

theorem run_append_up {P : Program} {t ty e : TypeId} {i : TypeInfo} {z : Value} (w : World) (ht : P.underlying t = some (.slice e)) (hi : P.info? e = some i) (hz : i.zero = some z) (a1 a2 : Option Addr) (n m cap c : Nat) (olds news : List Value)
    (hf1 : (Builtin.firstCells i.size n (.slice a1 n cap)).run P w.drew = .ok olds.toArray w.drew) (hf2 : (Builtin.firstCells i.size m (.slice a2 m c)).run P w.drew = .ok news.toArray w.drew) (hg : cap < n + m)
    (hb : (n + m) * i.bytes ≤ 140737488355328) (h63 : n + m ≤ maxLen) :
    (Builtin.append_ #[t, t] ty #[.slice a1 n cap, .slice a2 m c]).run P w = .ok (.slice (some ⟨w.heap.size, 0, none⟩) (n + m) (grownCap w (n + m) cap e))
      (w.drew.alloc (.cells (olds.toArray ++ news.toArray ++ Builtin.zeroCells z.cells (grownCap w (n + m) cap e - (n + m))) e)) := by
  have hn : ¬ (n + m ≤ cap) := by omega
  have h63' : ¬ (9223372036854775807 < ((n : Int) + (m : Int))) := by simp only [maxLen] at h63; omega
  have h48' : ¬ (281474976710656 < Builtin.nextslicecap (n + m) cap * i.bytes) := by have := growslice_fits hg hb; omega
  simp [Builtin.append_, run_underlying ht, sizeOf, typeInfo, zeroValue, hi, hz, Builtin.lenOf, hn, h63', h48', Question.forced, hf1, hf2, newRow, grownCap]
  congr 2
  apply Array.ext'
  simp

theorem run_append_in {P : Program} {t ty e e' : TypeId} {i : TypeInfo} (w : World) (ht : P.underlying t = some (.slice e)) (hi : P.info? e = some i) (g n m cap c : Nat) (a2 : Option Addr) (cur : Array Value) (hg : w.heap[g]? = some (.cells cur e' (0, 0))) (news : List Value)
    (hf2 : (Builtin.firstCells i.size m (.slice a2 m c)).run P w = .ok news.toArray w) (h1 : ∀ u ∈ news, u.oneCell' = true) (hroom : n + m ≤ cap) (hfit : n * i.size + news.length ≤ cur.size) :
    (Builtin.append_ #[t, t] ty #[.slice (some ⟨g, 0, none⟩) n cap, .slice a2 m c]).run P w =
      .ok (.slice (some ⟨g, 0, none⟩) (n + m) cap) (w.setRow g (cur.toList.take (n * i.size) ++ news ++ cur.toList.drop (n * i.size + news.length)).toArray) := by
  have hst := run_storeCells_at P g (n * i.size) e' news 0 cur w hg (by simpa using hfit) h1
  simp only [Nat.add_zero] at hst
  simp [Builtin.append_, run_underlying ht, sizeOf, typeInfo, hi, Builtin.lenOf, hroom, hf2, Addr.add_lit, hst]

def Gh.addT (Γ : Gh) (b : Nat) (vs : List Value) (i n cap : Nat) : Gh := { Γ.addI b vs with T := fun j m => if j = i ∧ m = n then some (b, cap) else Γ.T j m }

def appV (x y : AV) (H : List HO) : AV :=
  match x, y with
  | .sl .exact xs, .sl _ ys => if ys.length = 0 then .sl .exact xs else .sl (.tok H.length) (xs ++ ys)
  | .sl (.tok i) xs, .sl _ ys => .sl (.tok i) (xs ++ ys)
  | .sl .no xs, _ => .sl .no xs
  | _, _ => .any
def appH (P : Program) (t : TypeId) (x y : AV) (H : List HO) : List HO :=
  match x, y, slOf P t with
  | .sl .exact xs, .sl _ ys, some (_, sz) => if ys.length = 0 then H else H ++ [.spare (xs.length + ys.length) sz]
  | .sl (.tok i) xs, .sl _ ys, some (_, sz) => H.set i (.spare (xs.length + ys.length) sz)
  | _, _, _ => H
def appS (P : Program) (t t' : TypeId) (x y : AV) (H : List HO) : Prop :=
  match x, y, slOf P t with
  | .sl own xs, .sl _ ys, some (e, sz) => t' = t ∧ 0 < sz ∧ (∃ z by', zOf P e = some z ∧ z.cells.length = sz ∧ z.cells.all AV.one = true ∧ byOf P e = some by' ∧ (xs.length + ys.length) * by' ≤ 140737488355328) ∧ xs.length + ys.length ≤ maxLen ∧
      (∀ a, a ∈ xs → a.cells.length = sz) ∧ (∀ a, a ∈ ys → a.cells.length = sz) ∧ match own with
    | .exact => True
    | .tok i => H[i]? = some (.spare xs.length sz)
    | .no => ys.length = 0
  | _, _, _ => False

theorem set_same {α : Type} {l : List α} {i : Nat} {a : α} (h : l[i]? = some a) : l.set i a = l := by
  apply List.ext_getElem?
  intro j
  by_cases e : i = j
  · subst e
    have := (List.getElem?_eq_some_iff.1 h).1
    rw [List.getElem?_set_self this, h]
  · rw [List.getElem?_set_ne e]

theorem take_of {cur : Array Value} {olds : List Value} {k : Nat} (hl : olds.length = k) (hc : k ≤ cur.size) (h : ∀ (j : Nat) (v : Value), olds[j]? = some v → cur[j]? = some v) : cur.toList.take k = olds := by
  apply List.ext_getElem?
  intro j
  rw [List.getElem?_take]
  by_cases hj : j < k
  · rw [if_pos hj]
    have : olds[j]? = some olds[j] := List.getElem?_eq_getElem (by omega)
    rw [this]
    simpa using h j _ this
  · rw [if_neg hj]
    exact (List.getElem?_eq_none (by omega)).symm

/-- A new row, with room behind it. -/
theorem row_new {P : Program} {Γ : Gh} {H : List HO} {w0 : Bs} {w : World} (hr : R w0 Γ H w) {z : Value} {e : TypeId} {n m k sz cap : Nat} {olds news : List Value} (hl : (olds ++ news).length = (n + m) * sz) (hz : z.cells.size = sz)
    (hc : n + m ≤ cap) (hm : cap ≤ maxLen) (hTf : ∀ q, n + m < q → Γ.T k q = none) :
    let w' := w.drew.alloc (.cells (olds.toArray ++ news.toArray ++ Builtin.zeroCells z.cells (cap - (n + m))) e)
    let Δ := Γ.addT w.heap.size (olds ++ news) k (n + m) cap
    (HO.spare (n + m) sz).at Δ w' k w.heap.size ∧ (∀ c o v, Δ.I c o = some v → Γ.I c o = some v ∨ (w.heap.size ≤ c ∧ w'.cell? ⟨c, o, none⟩ = some v)) := by
  intro w' Δ
  have hh : w'.heap[w.heap.size]? = some (.cells (olds.toArray ++ news.toArray ++ Builtin.zeroCells z.cells (cap - (n + m))) e) := heap_alloc_new w.drew _
  refine ⟨⟨⟨cap, _, e, by simp [Δ, Gh.addT], hh, ?_, hm, hc⟩, fun o ho => ?_, fun q hq => ?_⟩, fun c o v h => ?_⟩
  · simp only [Array.size_append, List.size_toArray, Builtin.zeroCells, Array.size_map, Array.size_range, hz]
    rw [← List.length_append, hl, ← Nat.add_mul]
    congr 1
    omega
  · simp only [Δ, Gh.addT, Gh.addI, if_pos]
    exact List.getElem?_eq_none (by omega)
  · simp only [Δ, Gh.addT]
    rw [if_neg (by omega)]
    exact hTf q hq
  · by_cases ec : c = w.heap.size
    · subst ec
      simp only [Δ, Gh.addT, Gh.addI, if_pos] at h
      refine .inr ⟨Nat.le_refl _, ?_⟩
      rw [cell_of_row w' _ o _ e (0, 0) hh]
      rw [Array.getElem?_append_left (by have := (List.getElem?_eq_some_iff.1 h).1; simpa using this)]
      simpa using h
    · simp only [Δ, Gh.addT, Gh.addI, if_neg ec] at h
      exact .inl h

theorem app_run {P : Program} {w0 : Bs} {Γ : Gh} {H : List HO} {w : World} {t t' ty : TypeId} {x y : AV} {vx vy : Value} (hr : R w0 Γ H w) (hs : appS P t t' x y H) (hx : VR Γ x vx) (hy : VR Γ y vy) :
    ∃ Γ' v w', (Builtin.append_ #[t, t'] ty #[vx, vy]).run P w = .ok v w' ∧ Gh.Le Γ Γ' ∧ VR Γ' (appV x y H) v ∧ R w0 Γ' (appH P t x y H) w' := by
  unfold appS at hs
  split at hs
  · rename_i own xs own' ys e sz hsl
    obtain ⟨rfl, hpos, ⟨z, by', hz, hzl, hz1, hby, hbytes⟩, h63, hxs, hys, ho⟩ := hs
    obtain ⟨hu, hszo⟩ := slOf_some hsl
    obtain ⟨a1, cap, olds, rfl, f1, hc1, hv1, ho1, hl1, hA1⟩ := sl_first hx hxs
    obtain ⟨a2, cap2, news, rfl, f2, hc2, hv2, ho2, hl2, hA2⟩ := sl_first hy hys
    obtain ⟨i, hi, hisz⟩ := Option.map_eq_some_iff.1 hszo
    obtain ⟨i2, hi2, hiby⟩ := Option.map_eq_some_iff.1 hby
    rw [hi] at hi2; cases hi2
    by_cases h0 : ys.length = 0
    · have : ys = [] := List.eq_nil_of_length_eq_zero h0
      subst this
      refine ⟨Γ, .slice a1 xs.length cap, w, run_append_zero w hu hszo a1 a2 _ _ _ hc1, Gh.Le.refl Γ, ?_, ?_⟩
      · cases own <;> simp only [appV, List.length_nil, if_true, List.append_nil] <;> exact hx
      · cases own with
        | exact => simpa [appH, hsl] using hr
        | no => simpa [appH] using hr
        | tok k =>
          simp only [appH, hsl, List.length_nil, Nat.add_zero]
          rw [set_same ho]
          exact hr
    · have hne : ys ≠ [] := fun e => h0 (by rw [e]; rfl)
      have hyl : 0 < ys.length := Nat.pos_of_ne_zero h0
      have hzi : ∃ zv, i.zero = some zv ∧ zv.cells.size = sz := by
        unfold zOf at hz
        obtain ⟨zv, h1, h2⟩ := Option.map_eq_some_iff.1 hz
        rw [hi] at h1
        refine ⟨zv, by simpa using h1, ?_⟩
        have hv : VR Γ z zv := h2 ▸ VR.ofVal Γ zv
        have := (zcells (P := P) (t := e) hz hz1 Γ hv).length
        rw [hzl, Array.length_toList] at this
        exact this.symm
      obtain ⟨zv, hzv, hzs⟩ := hzi
      subst hisz
      have hlen : (olds ++ news).length = (xs.length + ys.length) * i.size := by rw [List.length_append, hl1, hl2, Nat.add_mul]
      have hvs : ∀ {Δ : Gh}, Gh.Le Γ Δ → VRs Δ ((xs ++ ys).flatMap AV.cells) (olds ++ news) := fun le => by rw [List.flatMap_append]; exact (hv1.append hv2).mono le
      have hones : AV.ones ((xs ++ ys).flatMap AV.cells) := by
        rw [List.flatMap_append]
        intro q hq
        rcases List.mem_append.1 hq with h | h
        · exact ho1 q h
        · exact ho2 q h
      have hsz : ∀ q, q ∈ xs ++ ys → q.cells.length = i.size := by
        intro q hq
        rcases List.mem_append.1 hq with h | h
        · exact hxs q h
        · exact hys q h
      subst hiby
      have himm : ∀ b o v, Γ.I b o = some v → w.drew.cell? ⟨b, o, none⟩ = some v := fun b o v h => hr.imm b o v h
      have fst2 := first_run (P := P) (cap := cap2) hl2 hA2 himm
      have fst1 := first_run (P := P) (cap := cap) hl1 hA1 himm
      have fst2' := first_run (P := P) (cap := cap2) hl2 hA2 hr.imm
      have up : cap < xs.length + ys.length → ∀ k, (∀ q, xs.length + ys.length < q → Γ.T k q = none) → (∀ q p, Γ.T k q = some p → k < H.length) → Γ.T k (xs.length + ys.length) = none ∨ True →
          ∃ cap' w', (Builtin.append_ #[t', t'] ty #[.slice a1 xs.length cap, .slice a2 ys.length cap2]).run P w = .ok (.slice (some ⟨w.heap.size, 0, none⟩) (xs.length + ys.length) cap') w' ∧
            w' = w.drew.alloc (.cells (olds.toArray ++ news.toArray ++ Builtin.zeroCells zv.cells (cap' - (xs.length + ys.length))) e) ∧ xs.length + ys.length ≤ cap' ∧ cap' ≤ maxLen := fun hg k _ _ _ =>
        ⟨_, _, run_append_up w hu hi hzv a1 a2 _ _ _ _ olds news fst1 fst2 hg hbytes h63, rfl, grownCap_ge _ _ _ _, grownCap_le_maxLen _ _ _ _ h63⟩
      cases own with
      | no => exact absurd ho h0
      | exact =>
        have f1' : cap = xs.length := f1
        obtain ⟨cap', w', hrun, rfl, hc', hm'⟩ := up (by omega) H.length (fun q _ => (hr.fresh _ (Nat.le_refl _)).2 q) (fun q p h => by rw [(hr.fresh _ (Nat.le_refl _)).2 q] at h; cases h) (.inr trivial)
        have hrow := row_new (P := P) (e := e) hr hlen hzs hc' hm' (k := H.length) (fun q _ => (hr.fresh _ (Nat.le_refl _)).2 q)
        have le : Gh.Le Γ (Γ.addT w.heap.size (olds ++ news) H.length (xs.length + ys.length) cap') :=
          ⟨(hr.le_addI _).I, fun _ _ h => h, fun j q p h => by
            simp only [Gh.addT]
            by_cases ej : j = H.length
            · subst ej; rw [(hr.fresh _ (Nat.le_refl _)).2 q] at h; cases h
            · rw [if_neg (fun x => ej x.1)]; exact h⟩
        refine ⟨_, _, _, hrun, le, ?_, ?_⟩
        · simp only [appV, if_neg h0]
          refine .sl (by simp) hsz hones (hvs le) ?_ ⟨w.heap.size, rfl, by simp [Gh.addT]⟩ hc'
          intro j v hv
          simp only [Gh.addT, Gh.addI, Nat.zero_add, if_pos]; exact hv
        · simp only [appH, hsl, if_neg h0]
          exact hr.push _ w.heap.size ((Below.refl _ _).drew.alloc (Nat.le_refl _) _) le (Nat.le_refl _) (fun _ => hrow.1) hrow.2 (fun _ _ => rfl) (fun j hj => by funext q; simp [Gh.addT, hj])
      | tok k =>
        obtain ⟨b, hw0, hbl, ⟨⟨cap1, cur, e', hT1, hcur, hcs, hcm, hnc⟩, hIn, hTn⟩, hput⟩ := hr.put ho rfl
        obtain ⟨b1, rfl, hT2⟩ := f1
        rw [hT1] at hT2
        simp only [Option.some.injEq, Prod.mk.injEq] at hT2
        obtain ⟨rfl, rfl⟩ := hT2
        have hk : k < H.length := (List.getElem?_eq_some_iff.1 ho).1
        have hTq : ∀ q, xs.length + ys.length < q → Γ.T k q = none := fun q hq => hTn q (by omega)
        by_cases hroom : xs.length + ys.length ≤ cap1
        · have hfit : xs.length * i.size + news.length ≤ cur.size := by rw [hl2, hcs, ← Nat.add_mul]; exact Nat.mul_le_mul_right _ hroom
          have hone : ∀ u ∈ news, u.oneCell' = true := fun u hu => hv2.one ho2 u hu
          have hrun := run_append_in (P := P) (ty := ty) w hu hi b xs.length ys.length cap1 cap2 a2 cur hcur news fst2' hone hroom hfit
          have htake : cur.toList.take (xs.length * i.size) = olds := by
            refine take_of hl1 (by rw [hcs]; exact Nat.mul_le_mul_right _ hnc) fun j v hv => ?_
            have hx0 : xs ≠ [] := by
              rintro rfl
              have : olds = [] := List.eq_nil_of_length_eq_zero (by simpa using hl1)
              subst this; simp at hv
            obtain ⟨b2, o2, e2, hA⟩ := hA1 hx0
            cases e2
            have := hr.imm _ _ _ (hA j v hv)
            rw [cell_of_row w _ _ cur e' (0, 0) hcur] at this
            simpa using this
          have hIb : ∀ o v, Γ.I b o = some v → (olds ++ news)[o]? = some v := by
            intro o v h
            have hlt : o < xs.length * i.size := by
              rcases Nat.lt_or_ge o (xs.length * i.size) with h' | h'
              · exact h'
              · rw [hIn o h'] at h; cases h
            have h2 := hr.imm _ _ _ h
            rw [cell_of_row w _ _ cur e' (0, 0) hcur] at h2
            rw [List.getElem?_append_left (by omega), ← htake, List.getElem?_take, if_pos hlt]
            simpa using h2
          have le : Gh.Le Γ (Γ.addT b (olds ++ news) k (xs.length + ys.length) cap1) :=
            ⟨fun c o v h => by
              simp only [Gh.addT, Gh.addI]
              by_cases ec : c = b
              · subst ec; rw [if_pos rfl]; exact hIb o v h
              · rw [if_neg ec]; exact h, fun _ _ h => h, fun j q p h => by
              simp only [Gh.addT]
              by_cases ej : j = k ∧ q = xs.length + ys.length
              · obtain ⟨rfl, rfl⟩ := ej
                rw [hTn _ (by omega)] at h; cases h
              · rw [if_neg ej]; exact h⟩
          have hh := setRow_heap w b cur (cur.toList.take (xs.length * i.size) ++ news ++ cur.toList.drop (xs.length * i.size + news.length)).toArray e' (0, 0) hcur
          refine ⟨_, _, _, hrun, le, ?_, ?_⟩
          · simp only [appV]
            refine .sl (by simp) hsz hones (hvs le) ?_ ⟨b, rfl, by simp [Gh.addT]⟩ hroom
            intro j v hv
            simp only [Gh.addT, Gh.addI, Nat.zero_add, if_pos]; exact hv
          · simp only [appH, hsl]
            refine hput _ b _ _ (grownBy_setRow w b _) le (.inl rfl) (fun _ => ⟨⟨cap1, _, e', by simp [Gh.addT], hh, ?_, hcm, hroom⟩, fun o ho' => ?_, fun q hq => ?_⟩) ?_ (fun _ => rfl) (fun j hj => by funext q; simp [Gh.addT, hj])
            · simp only [List.size_toArray, List.length_append, List.length_take, List.length_drop, Array.length_toList]
              omega
            · simp only [Gh.addT, Gh.addI, if_pos]
              exact List.getElem?_eq_none (by omega)
            · simp only [Gh.addT]
              rw [if_neg (by omega)]
              exact hTq q hq
            · intro c o v h
              simp only [Gh.addT, Gh.addI] at h
              by_cases ec : c = b
              · subst ec
                rw [if_pos rfl] at h
                refine .inr ⟨.inl rfl, ?_⟩
                rw [cell_of_row _ _ o _ e' (0, 0) hh]
                have hlt := (List.getElem?_eq_some_iff.1 h).1
                rw [List.getElem?_toArray, List.getElem?_append_left (by rw [htake]; exact hlt), htake]
                exact h
              · rw [if_neg ec] at h
                exact .inl ⟨h, ec⟩
        · obtain ⟨cap', w', hrun, rfl, hc', hm'⟩ := up (by omega) k hTq (fun _ _ _ => hk) (.inr trivial)
          have hrow := row_new (P := P) (e := e) hr hlen hzs hc' hm' (k := k) hTq
          have le : Gh.Le Γ (Γ.addT w.heap.size (olds ++ news) k (xs.length + ys.length) cap') :=
            ⟨(hr.le_addI _).I, fun _ _ h => h, fun j q p h => by
              simp only [Gh.addT]
              by_cases ej : j = k ∧ q = xs.length + ys.length
              · obtain ⟨rfl, rfl⟩ := ej
                rw [hTn _ (by omega)] at h; cases h
              · rw [if_neg ej]; exact h⟩
          refine ⟨_, _, _, hrun, le, ?_, ?_⟩
          · simp only [appV]
            refine .sl (by simp) hsz hones (hvs le) ?_ ⟨w.heap.size, rfl, by simp [Gh.addT]⟩ hc'
            intro j v hv
            simp only [Gh.addT, Gh.addI, Nat.zero_add, if_pos]; exact hv
          · simp only [appH, hsl]
            refine hput _ w.heap.size _ _ ⟨rfl, rfl, rfl, by simp, fun c hc _ => heap_alloc_old w.drew _ c hc⟩ le (.inr (Nat.le_refl _)) (fun _ => hrow.1) ?_ (fun _ => rfl) (fun j hj => by funext q; simp [Gh.addT, hj])
            intro c o v h
            by_cases ec : c = b
            · subst ec
              have h' : Γ.I c o = some v := by
                simp only [Gh.addT, Gh.addI] at h
                rwa [if_neg (by omega)] at h
              refine .inr ⟨.inl rfl, ?_⟩
              have := hr.imm _ _ _ h'
              rw [World.cell?_of_block (w := w) (heap_alloc_old w.drew _ c hbl)]
              exact this
            · rcases hrow.2 c o v h with h' | ⟨h', h2⟩
              · exact .inl ⟨h', ec⟩
              · exact .inr ⟨.inr h', h2⟩
  · exact hs.elim
end Go.Proofs.Ytgmhmdmfnmlhmaa.PL

namespace Go.Proofs.Ytgmhmdmfnmlhmaa.PL
open Go.RowKit

/-! ### operations that write, or read what is written, each with one outcome -/
def app2 {α : Type} (xs : List AV) (f : AV → AV → α) (d : α) : α := match xs with | [x, y] => f x y | _ => d
def xS (P : Program) (op : Op) (E : Ev) (H : List HO) : Prop :=
  match op with
  | .call { callee := .builtin .append, args := xs, argTypes := ts } => match ts.toList with
    | [t, t'] => app2 (xs.toList.map E) (fun x y => appS P t t' x y H) False
    | _ => False
  | _ => False
def xV (P : Program) (op : Op) (E : Ev) (H : List HO) : AV :=
  match op with
  | .call { callee := .builtin .append, args := xs, .. } => app2 (xs.toList.map E) (fun x y => appV x y H) .any
  | _ => .any
def xH (P : Program) (op : Op) (E : Ev) (H : List HO) : List HO :=
  match op with
  | .call { callee := .builtin .append, args := xs, argTypes := ts } => match ts.toList with
    | [t, _] => app2 (xs.toList.map E) (fun x y => appH P t x y H) H
    | _ => H
  | _ => H
/-- which of them write, which of them read -/
def xW : Op → Bool
  | .call { callee := .builtin .append, .. } => true
  | _ => false
def xR : Op → Bool
  | _ => false

theorem x_still {P : Program} {op : Op} {E : Ev} {H : List HO} (h : xW op = false) : xH P op E H = H := by
  unfold xH
  split
  · simp [xW] at h
  · rfl
theorem x_indep {P : Program} {op : Op} {E : Ev} {H : List HO} (h : xW op = false) (h' : xR op = false) (hs : xS P op E H) (H2 : List HO) : xS P op E H2 ∧ xV P op E H2 = xV P op E H := by
  unfold xS at hs
  split at hs
  · simp [xW] at h
  · exact hs.elim

theorem x_ok {P : Program} {o : Oper} {E : Ev} {H : List HO} (hs : xS P o.op E H) : OpT P o E H (xV P o.op E H) (xH P o.op E H) := by
  obtain ⟨dst, op, ty, pos, after, guard⟩ := o
  dsimp only at hs ⊢
  unfold xS at hs
  split at hs
  · rename_i xs ts
    split at hs
    · rename_i t t' hts
      unfold app2 at hs
      split at hs
      · rename_i x y hxy
        refine OpT.value fun w0 Γ w ρ hr hx => ?_
        obtain ⟨a, b, rfl, rfl, hab⟩ : ∃ a b, x = E a ∧ y = E b ∧ xs.toList = [a, b] := by
          match hl : xs.toList, hxy with
          | [a, b], h => simp at h; exact ⟨a, b, h.1.symm, h.2.symm, rfl⟩
        have ha := hx a (by simp [Op.operands, Call.operands]; rw [← Array.mem_toList_iff, hab]; simp)
        have hb := hx b (by simp [Op.operands, Call.operands]; rw [← Array.mem_toList_iff, hab]; simp)
        obtain ⟨Γ', v, w', h1, h2, h3, h4⟩ := app_run (ty := ty) hr hs ha hb
        have exs : xs = #[a, b] := by apply Array.ext'; simpa using hab
        have ets : ts = #[t, t'] := by apply Array.ext'; simpa using hts
        subst exs; subst ets
        refine ⟨Γ', v, w', ?_, h2, by simpa [xV, app2] using h3, by simpa [xH, app2] using h4⟩
        simp [execOp, resolve, invoke, builtin, h1]
      · exact hs.elim
    · exact hs.elim
  · exact hs.elim
end Go.Proofs.Ytgmhmdmfnmlhmaa.PL

namespace Go.Proofs.Ytgmhmdmfnmlhmaa.PL
open Go.RowKit

abbrev Env := Nat → AV
def upd (e : Env) (d : Nat) (v : AV) : Env := fun t => if t = d then v else e t
def updo (e : Env) (d : Option Nat) (v : AV) : Env := match d with | some d => upd e d v | none => e
theorem upd_same (e : Env) (d : Nat) (v : AV) : upd e d v d = v := by simp [upd]
theorem upd_ne (e : Env) (d t : Nat) (v : AV) (h : t ≠ d) : upd e d v t = e t := by simp [upd, h]

inductive Ex where
  | normal | exit (id : Nat) | ret
  deriving DecidableEq

/-- A call of plain values that leaves all as it is. -/
def TD (P : Program) (f : FuncId) (args : List AV) (r : AV) : Prop := ∀ H, TS P f args H fun r' H' => r' = r ∧ H' = H
theorem TD.of_T {P : Program} {f : FuncId} {args ys : List AV} {r : AV} (h : T P f ys r) (hc : Cls args ys) : TD P f args r := fun H => TS.of_T h hc ⟨rfl, rfl⟩

/-- What an operation asks for, and hands on. d: may it come in another order. -/
def vcOp (P : Program) (d : Bool) (o : Oper) (E : Ev) (H : List HO) (K : AV → List HO → Prop) : Prop :=
  if isP o.op = true then psOp P o.op E H ∧ K (pvOp P o.op E H) H
  else match o.op with
  | .buildSlice t len parts => bslS P t len (parts.toList.map fun p => (p.1, E p.2)) ∧ K (bslV P t len (parts.toList.map fun p => (p.1, E p.2))) H
  | .box e x => (E x).okc = true ∧ K (.ptr H.length 0) (H ++ [.box (E x).cells])
  | .alloc e => match zOf P e with | some z => z.okc = true ∧ K (.ptr H.length 0) (H ++ [.box z.cells]) | none => False
  | .store t a x => match E a with
    | .ptr i off => match H[i]? with
      | some (.box cs) => (E x).okc = true ∧ szOf P t = some (E x).cells.length ∧ off + (E x).cells.length ≤ cs.length ∧ K .any (H.set i (.box (splice cs off (E x).cells)))
      | _ => False
    | _ => False
  | .makeFunc fn first captured => K (.fn fn (first.toList.map E) (captured.toList.map E)) H
  | .call { callee := .value x, args := xs, .. } => match E x with
    | .fn (.func f) first captured =>
      if d = true then ∃ r, TD P f (first ++ xs.toList.map E ++ captured) r ∧ K r H else TS P f (first ++ xs.toList.map E ++ captured) H K
    | _ => False
  | op => xS P op E H ∧ K (xV P op E H) (xH P op E H)

/-- Is this an operation that writes? -/
def isW : Op → Bool
  | .box .. | .alloc .. | .store .. => true
  | op => xW op

theorem bsl_ok {P : Program} {o : Oper} {E : Ev} {H : List HO} {t : TypeId} {len : Nat} {parts : Array (Nat × Operand)} (ho : o.op = .buildSlice t len parts) (hs : bslS P t len (parts.toList.map fun p => (p.1, E p.2))) :
    OpT P o E H (bslV P t len (parts.toList.map fun p => (p.1, E p.2))) H := by
  refine OpT.value fun w0 Γ w ρ hr hx => ?_
  rw [ho] at hx
  obtain ⟨Γ', v, w', h1, h2⟩ := bsl_run (P := P) hr hs (VRp.map (ρ := ρ) (l := parts.toList) fun p hp => hx p.2 (by
    simp only [Op.operands, List.mem_toArray, List.mem_map]
    exact ⟨p, hp, rfl⟩))
  have e : (parts.toList.map fun p => (p.1, ρ p.2)).toArray = parts.map fun p => (p.1, ρ p.2) := by
    apply Array.ext'; simp
  rw [e] at h1
  exact ⟨Γ', v, w', by simp [execOp, ho, h1], h2⟩

theorem box_ok {P : Program} {o : Oper} {E : Ev} {H : List HO} {t : TypeId} {x : Operand} (ho : o.op = .box t x) (hs : (E x).okc = true) : OpT P o E H (.ptr H.length 0) (H ++ [.box (E x).cells]) := by
  refine OpT.value fun w0 Γ w ρ hr hx => ?_
  rw [ho] at hx
  obtain ⟨Γ', v, w', h1, h2⟩ := box_run (P := P) (e := t) hr (hx x (by simp [Op.operands])) hs
  exact ⟨Γ', v, w', by simp [execOp, ho, h1], h2⟩

theorem alloc_ok {P : Program} {o : Oper} {E : Ev} {H : List HO} {t : TypeId} {z : AV} (ho : o.op = .alloc t) (hz : zOf P t = some z) (hs : z.okc = true) : OpT P o E H (.ptr H.length 0) (H ++ [.box z.cells]) := by
  refine OpT.value fun w0 Γ w ρ hr hx => ?_
  obtain ⟨Γ', v, w', h1, h2⟩ := alloc_run (P := P) hr hz hs
  exact ⟨Γ', v, w', by simp [execOp, ho, h1], h2⟩

theorem store_ok {P : Program} {o : Oper} {E : Ev} {H : List HO} {t : TypeId} {a x : Operand} {i off : Nat} {cs : List AV} (ho : o.op = .store t a x) (ha : E a = .ptr i off) (hi : H[i]? = some (.box cs))
    (hok : (E x).okc = true) (hn : szOf P t = some (E x).cells.length) (hf : off + (E x).cells.length ≤ cs.length) : OpT P o E H .any (H.set i (.box (splice cs off (E x).cells))) := by
  refine OpT.skip fun w0 Γ w ρ hr hx => ?_
  rw [ho] at hx
  have hpa := hx a (by simp [Op.operands])
  rw [ha] at hpa
  obtain ⟨w', h1, h2⟩ := st_run (P := P) hr hpa (hx x (by simp [Op.operands])) hi hok hn hf
  exact ⟨Γ, w', by simp [execOp, ho, h1], Gh.Le.refl Γ, h2⟩

theorem makeFunc_ok {P : Program} {o : Oper} {E : Ev} {H : List HO} {fn : Fn} {first captured : Array Operand} (ho : o.op = .makeFunc fn first captured) :
    OpT P o E H (.fn fn (first.toList.map E) (captured.toList.map E)) H := by
  refine OpT.value fun w0 Γ w ρ hr hx => ?_
  rw [ho] at hx
  refine ⟨Γ, .func fn (first.toList.map ρ).toArray (captured.toList.map ρ).toArray, w, ?_, Gh.Le.refl Γ, .fn (VRs.map fun p hp => hx p ?_) (VRs.map fun p hp => hx p ?_), hr⟩
  · have e1 : (first.toList.map ρ).toArray = first.map ρ := by apply Array.ext'; simp
    have e2 : (captured.toList.map ρ).toArray = captured.map ρ := by apply Array.ext'; simp
    rw [e1, e2]
    simp [execOp, ho, Instr.makeFunc]
  · simp [Op.operands]; left; simpa using hp
  · simp [Op.operands]; right; simpa using hp

theorem call_wp {P : Program} {o : Oper} {E : Ev} {H : List HO} {K : AV → List HO → Prop} {x : Operand} {xs : Array Operand} {ts : Array TypeId} {f : FuncId} {first captured : List AV}
    (ho : o.op = .call { callee := .value x, args := xs, argTypes := ts }) (hf : E x = .fn (.func f) first captured) (h : TS P f (first ++ xs.toList.map E ++ captured) H K) :
    ∀ (w0 : Bs) (Γ : Gh) (w : World) (a : Act) (next : Act → World → Prop) (Q : Exit → Act → World → Prop), R w0 Γ H w → (∀ x, x ∈ o.op.operands → VR Γ (E x) (a.eval x)) →
      (∀ Γ' v r H' w', Gh.Le Γ Γ' → VR Γ' r v → R w0 Γ' H' w' → K r H' → next (a.put o.dst v) w') → o.wp P a w next Q := by
  intro w0 Γ w a next Q hr hx hk
  rw [ho] at hx
  have hfx := hx x (by simp [Op.operands, Call.operands])
  rw [hf] at hfx
  have hargs : VRs Γ (xs.toList.map E) (xs.toList.map a.eval) := VRs.map fun p hp => hx p (by simp [Op.operands, Call.operands]; right; simpa using hp)
  generalize hv : a.eval x = u at hfx
  cases hfx with
  | @fn _ _ _ us vs h1 h2 =>
  obtain ⟨⟨fn, hc1, hc2, hc3⟩, hcall⟩ := h
  have hargs2 := (h1.append hargs).append h2
  have hc := hcall w0 Γ w _ hr hargs2
  have hrun : (execOp a.eval o).run P w = .ok (.enter f (us ++ xs.toList.map a.eval ++ vs).toArray) w := by
    have hb : ¬ fn.body = none := by intro e; rw [e] at hc3; cases hc3
    have hn : ¬ fn.name = "runtime.NumGoroutine" := by simpa using hc2
    have e : (us ++ xs.toList.map a.eval ++ vs).toArray = (us.toArray ++ xs.map a.eval) ++ vs.toArray := by apply Array.ext'; simp
    rw [e]
    simp [execOp, ho, resolve, hv, Deferred.ofValue, invoke, callFunc, hc1, hn, hb]
  unfold Oper.wp
  rw [hrun, Oper.upon_enter]
  refine hc.mono ?_
  rintro e w' ⟨Γ', v, r, H', rfl, g1, g2, g3, g4⟩
  exact hk Γ' v r H' w' g1 g2 g3 g4

theorem vcOp_ok {P : Program} {d : Bool} {o : Oper} {E : Ev} {H : List HO} {K : AV → List HO → Prop} (h : vcOp P d o E H K) (hd : d = true) : ∃ r H', OpT P o E H r H' ∧ K r H' ∧ (isW o.op = false → H' = H) := by
  subst hd
  unfold vcOp at h
  split at h
  · rename_i hp
    exact ⟨_, H, pure_ok hp h.1, h.2, fun _ => rfl⟩
  · split at h
    · rename_i ho; exact ⟨_, _, bsl_ok ho h.1, h.2, fun _ => rfl⟩
    · rename_i ho; exact ⟨_, _, box_ok ho h.1, h.2, fun e => by rw [ho] at e; cases e⟩
    · rename_i ho
      split at h
      · rename_i z hz; exact ⟨_, _, alloc_ok ho hz h.1, h.2, fun e => by rw [ho] at e; cases e⟩
      · exact h.elim
    · rename_i ho
      split at h
      · rename_i i off ha
        split at h
        · rename_i cs hi; exact ⟨_, _, store_ok ho ha hi h.1 h.2.1 h.2.2.1, h.2.2.2, fun e => by rw [ho] at e; cases e⟩
        · exact h.elim
      · exact h.elim
    · rename_i ho; exact ⟨_, _, makeFunc_ok ho, h, fun _ => rfl⟩
    · rename_i ho
      split at h
      · rename_i f first captured hf
        rw [if_pos rfl] at h
        obtain ⟨r, ht, hk⟩ := h
        refine ⟨r, H, ?_, hk, fun _ => rfl⟩
        intro w0 Γ w a next Q hr hx hn
        refine call_wp ho hf (ht H) w0 Γ w a next Q hr hx ?_
        rintro Γ' v r' H' w' g1 g2 g3 ⟨rfl, rfl⟩
        exact hn Γ' v w' g1 g2 g3
      · exact h.elim
    · rename_i h1 h2 h3 h4 h5 h6
      exact ⟨_, _, x_ok h.1, h.2, fun e => x_still (by
        unfold isW at e
        split at e <;> first | (cases e; done) | exact e)⟩

/-- What an operation does, in the end. -/
theorem vcOp_wp {P : Program} {d : Bool} {o : Oper} {E : Ev} {H : List HO} {K : AV → List HO → Prop} (h : vcOp P d o E H K) :
    ∀ (w0 : Bs) (Γ : Gh) (w : World) (a : Act) (next : Act → World → Prop) (Q : Exit → Act → World → Prop), R w0 Γ H w → (∀ x, x ∈ o.op.operands → VR Γ (E x) (a.eval x)) →
      (∀ Γ' v r H' w', Gh.Le Γ Γ' → VR Γ' r v → R w0 Γ' H' w' → K r H' → next (a.put o.dst v) w') → o.wp P a w next Q := by
  intro w0 Γ w a next Q hr hx hk
  have fin : ∀ {r H'}, OpT P o E H r H' → K r H' → o.wp P a w next Q := fun ht hK => ht w0 Γ w a next Q hr hx fun Γ' v w' g1 g2 g3 => hk Γ' v _ _ w' g1 g2 g3 hK
  cases d with
  | true =>
    obtain ⟨r, H', ht, hK, _⟩ := vcOp_ok h rfl
    exact fin ht hK
  | false =>
    by_cases hcall : ∃ x xs ts, o.op = .call { callee := .value x, args := xs, argTypes := ts }
    · obtain ⟨x, xs, ts, ho⟩ := hcall
      unfold vcOp at h
      rw [ho] at h
      simp only [isP, Bool.false_eq_true, if_false] at h
      split at h
      · rename_i f first captured hf
        exact call_wp ho hf h w0 Γ w a next Q hr hx hk
      · exact h.elim
    · have h' : vcOp P true o E H K := by
        unfold vcOp at h ⊢
        split at h
        · rename_i hp; rw [if_pos hp]; exact h
        · rename_i hp
          rw [if_neg hp]
          split at h <;> first | exact h | (rename_i ho; exact absurd ⟨_, _, _, ho⟩ hcall)
      obtain ⟨r, H', ht, hK, _⟩ := vcOp_ok h' rfl
      exact fin ht hK

end Go.Proofs.Ytgmhmdmfnmlhmaa.PL

namespace Go.Proofs.Ytgmhmdmfnmlhmaa.PL
open Go.RowKit

/-! ### guards -/
def gb (x : AV) (want : Bool) : Option Bool :=
  match x with
  | .bool b => some (if want then b else !b)
  | .opt g (.bool b) => some (g && (if want then b else !b))
  | _ => none

/-- What a guarded operation looks at. -/
def gE (op : Op) (e : Env) : Ev := match op with | .pick .. => evA e | _ => fun x => (evA e x).un
def gO (op : Op) (e : Env) : Prop := match op with | .pick .. => True | _ => ∀ x, x ∈ op.operands → (evA e x).optB = true
theorem gE_ok {op : Op} {e : Env} {x : Operand} {v : Value} {Γ : Gh} (ho : gO op e) (hx : x ∈ op.operands) (h : VR Γ (evA e x) v) : VR Γ (gE op e x) v := by
  cases op <;> first | exact h | exact h.un (ho x hx)
/-- One operation of a region, its guard beside it. -/
def vcG (P : Program) (d : Bool) (ops : Array Oper) (o : Oper) (e : Env) (H : List HO) (K : AV → List HO → Prop) : Prop :=
  match o.guard with
  | none => vcOp P d o (evA e) H K
  | some (j, want) => match (ops[j]?).bind (·.dst) with
    | none => False
    | some t => match gb (e t) want with
      | none => False
      | some g => if isP o.op = true then (g = true → gO o.op e ∧ psOp P o.op (gE o.op e) H) ∧ K (.opt g (pvOp P o.op (gE o.op e) H)) H
        else match o.op with
        | .call { callee := .value x, args := xs, .. } => match (evA e x).un with
          | .fn (.func f) first captured => ∃ r, (g = true → (∀ x, x ∈ o.op.operands → (evA e x).optB = true) ∧ TD P f (first ++ (xs.toList.map fun x => (evA e x).un) ++ captured) r) ∧ K (.opt g r) H
          | _ => False
        | _ => (g = true → (∀ x, x ∈ o.op.operands → (evA e x).optB = true) ∧ vcOp P d o (fun x => (evA e x).un) H K) ∧ (g = false → K (.tup []) H)

def vcOps (P : Program) (d : Bool) (ops : Array Oper) : List Oper → (Env → List HO → Prop) → Env → List HO → Prop
  | [], K, e, H => K e H
  | o :: os, K, e, H => vcG P d ops o e H fun r H' => vcOps P d ops os K (updo e o.dst r) H'

/-- The temporaries, as they are told. -/
structure RE (N : Nat) (Γ : Gh) (e : Env) (a : Act) : Prop where
  size : a.tmps.size = N
  defers : a.defers = []
  val : ∀ t, t < N → VR Γ (e t) (a.tmps.getD t undef)

theorem RE.mono {N : Nat} {Γ Δ : Gh} {e : Env} {a : Act} (h : RE N Γ e a) (le : Gh.Le Γ Δ) : RE N Δ e a := ⟨h.size, h.defers, fun t ht => (h.val t ht).mono le⟩

theorem RE.put {N : Nat} {Γ : Gh} {e : Env} {a : Act} (h : RE N Γ e a) {d : Option Nat} {x : AV} {v : Value} (hv : VR Γ x v) : RE N Γ (updo e d x) (a.put d v) := by
  cases d with
  | none => exact h
  | some d =>
    refine ⟨by simp [Act.put, h.size], h.defers, fun t ht => ?_⟩
    simp only [Act.put, updo, upd, Array.getD_eq_getD_getElem?, Array.getElem?_setIfInBounds]
    by_cases e1 : t = d
    · subst e1
      rw [if_pos rfl, if_pos rfl, if_pos (by rw [h.size]; exact ht)]
      exact hv
    · rw [if_neg e1, if_neg (fun x => e1 x.symm)]
      have := h.val t ht
      rwa [Array.getD_eq_getD_getElem?] at this

def opnOk (N : Nat) (x : Operand) : Bool := match x with | .tmp t => decide (t < N) | _ => true

theorem RE.eval {N : Nat} {Γ : Gh} {e : Env} {a : Act} (h : RE N Γ e a) {x : Operand} (hx : opnOk N x = true) : VR Γ (evA e x) (a.eval x) := by
  cases x with
  | tmp t => exact h.val t (by simpa [opnOk] using hx)
  | const v => exact VR.ofVal Γ v
  | global g => exact .any _
  | func f => exact .fn .nil .nil

def operOk (N : Nat) (ops : Array Oper) (o : Oper) : Bool :=
  o.op.operands.all (opnOk N) && match o.guard with | none => true | some (j, _) => match (ops[j]?).bind (·.dst) with | some t => decide (t < N) | none => false

theorem opn_of {N : Nat} {ops : Array Oper} {o : Oper} (h : operOk N ops o = true) : ∀ x, x ∈ o.op.operands → opnOk N x = true := by
  unfold operOk at h
  rw [Bool.and_eq_true] at h
  intro x hx
  exact (Array.all_eq_true_iff_forall_mem.1 h.1) x hx

/-- What an operation looks at is there. -/
structure Looks (ops : Array Oper) (o : Oper) (Γ : Gh) (e : Env) (a : Act) : Prop where
  opn : ∀ x, x ∈ o.op.operands → VR Γ (evA e x) (a.eval x)
  grd : ∀ j want t, o.guard = some (j, want) → (ops[j]?).bind (·.dst) = some t → t < a.tmps.size ∧ VR Γ (e t) (a.tmps.getD t undef)

theorem vcG_wp' {P : Program} {d : Bool} {ops : Array Oper} {o : Oper} {e : Env} {H : List HO} {K : AV → List HO → Prop} {i : Nat} (hi : ops[i]? = some o) (h : vcG P d ops o e H K) :
    ∀ (w0 : Bs) (Γ : Gh) (w : World) (a : Act) (next : Act → World → Prop) (Q : Exit → Act → World → Prop), R w0 Γ H w → Looks ops o Γ e a →
      (∀ Γ' v r H' w', Gh.Le Γ Γ' → VR Γ' r v → R w0 Γ' H' w' → K r H' → next (a.put o.dst v) w') → wpOp P ops Q i next a w := by
  intro w0 Γ w a next Q hr he hk
  unfold wpOp
  rw [hi]
  dsimp only
  have hops := he.opn
  unfold vcG at h
  split at h
  · rename_i hg
    rw [if_pos (by simp [Region.wanted, hg])]
    exact .inl (vcOp_wp h w0 Γ w a next Q hr hops hk)
  · rename_i j want hg
    split at h
    · exact h.elim
    · rename_i t ht
      split at h
      · exact h.elim
      · rename_i g hgb
        obtain ⟨htN, hval⟩ := he.grd j want t hg ht
        have hy : Region.wanted o (yielded ops a.tmps) = g ∧ True := by
          refine ⟨?_, trivial⟩
          have hyd : yielded ops a.tmps j = match a.tmps.getD t undef with | .bool b => some b | _ => none := by
            unfold yielded
            rw [ht]
            have hlt : t < a.tmps.size := htN
            simp only [Option.bind_some, Array.getD_eq_getD_getElem?, Array.getElem?_eq_getElem hlt, Option.getD_some]
            split <;> simp_all
          unfold Region.wanted
          rw [hg]
          dsimp only
          rw [hyd]
          unfold gb at hgb
          split at hgb
          · rename_i b hb
            rw [hb] at hval
            generalize a.tmps.getD t undef = u at hval
            cases hval
            simp at hgb
            subst hgb
            cases want <;> cases b <;> rfl
          · rename_i g' b hb
            rw [hb] at hval
            generalize a.tmps.getD t undef = u at hval
            cases hval with
            | opt h1 h2 =>
              simp at hgb
              subst hgb
              cases g' with
              | true =>
                have := h1 rfl
                cases this
                cases want <;> cases b <;> rfl
              | false =>
                have := h2 rfl
                subst this
                cases want <;> rfl
          · cases hgb
        have hw := hy.1
        clear hy
        have hun : (∀ x, x ∈ o.op.operands → (evA e x).optB = true) → ∀ x, x ∈ o.op.operands → VR Γ (evA e x).un (a.eval x) := fun ho x hx => (hops x hx).un (ho x hx)
        have hun' : gO o.op e → ∀ x, x ∈ o.op.operands → VR Γ (gE o.op e x) (a.eval x) := fun ho x hx => gE_ok ho hx (hops x hx)
        have optk : ∀ {r : AV} {H' : List HO}, K (.opt g r) H' → g = true → ∀ Γ' v w', Gh.Le Γ Γ' → VR Γ' r v → R w0 Γ' H' w' → next (a.put o.dst v) w' :=
          fun hK hg Γ' v w' g1 g2 g3 => hk Γ' v _ _ w' g1 (.opt (fun _ => g2) (fun x => by rw [hg] at x; cases x)) g3 hK
        have skip : g = false → ∀ {r : AV}, K (.opt g r) H → (if Region.wanted o (yielded ops a.tmps) then o.wp P a w next Q ∨ (o.asks P a w ∧ LetsOut Q) else next (a.put o.dst undef) w) := by
          intro hgf r hK
          rw [hw, hgf, if_neg (by simp)]
          exact hk Γ undef _ H w (Gh.Le.refl Γ) (.opt (fun x => by rw [hgf] at x; cases x) (fun _ => rfl)) hr hK
        split at h
        · rename_i hp
          obtain ⟨h1, h2⟩ := h
          cases hgv : g with
          | false => exact skip hgv h2
          | true =>
            rw [hw, hgv, if_pos rfl]
            obtain ⟨g1, g2⟩ := h1 hgv
            exact .inl (pure_ok hp g2 w0 Γ w a next Q hr (hun' g1) fun Γ' v w' k1 k2 k3 => optk h2 hgv Γ' v w' k1 k2 k3)
        · split at h
          · rename_i x xs ts ho
            split at h
            · rename_i f first captured hf
              obtain ⟨r, h1, h2⟩ := h
              cases hgv : g with
              | false => exact skip hgv h2
              | true =>
                rw [hw, hgv, if_pos rfl]
                obtain ⟨g1, g2⟩ := h1 hgv
                refine .inl (call_wp (E := fun x => (evA e x).un) ho hf (g2 H) w0 Γ w a next Q hr (hun g1) ?_)
                rintro Γ' v r' H' w' k1 k2 k3 ⟨rfl, rfl⟩
                exact optk h2 hgv Γ' v w' k1 k2 k3
            · exact h.elim
          · obtain ⟨h1, h2⟩ := h
            cases hgv : g with
            | false =>
              rw [hw, hgv, if_neg (by simp)]
              exact hk Γ undef _ H w (Gh.Le.refl Γ) (.tup .nil) hr (h2 hgv)
            | true =>
              rw [hw, hgv, if_pos rfl]
              obtain ⟨g1, g2⟩ := h1 hgv
              exact .inl (vcOp_wp g2 w0 Γ w a next Q hr (hun g1) hk)

theorem RE.looks {N : Nat} {ops : Array Oper} {o : Oper} {Γ : Gh} {e : Env} {a : Act} (he : RE N Γ e a) (hok : operOk N ops o = true) : Looks ops o Γ e a := by
  refine ⟨fun x hx => he.eval (opn_of hok x hx), fun j want t hg ht => ?_⟩
  have htN : t < N := by
    unfold operOk at hok
    rw [Bool.and_eq_true, hg] at hok
    simpa [ht] using hok.2
  exact ⟨by rw [he.size]; exact htN, he.val t htN⟩

end Go.Proofs.Ytgmhmdmfnmlhmaa.PL

namespace Go.Proofs.Ytgmhmdmfnmlhmaa.PL
open Go.RowKit

/-! ### a region whose operations may come in whatever order their edges allow -/
def isRd : Op → Bool
  | .load .. => true
  | op => xR op

def StepG (P : Program) (ops : Array Oper) (i : Nat) (o : Oper) (e : Env) (H : List HO) (r : AV) (H' : List HO) : Prop :=
  ∀ (w0 : Bs) (Γ : Gh) (w : World) (a : Act) (next : Act → World → Prop) (Q : Exit → Act → World → Prop), R w0 Γ H w → Looks ops o Γ e a →
    (∀ Γ' v w', Gh.Le Γ Γ' → VR Γ' r v → R w0 Γ' H' w' → next (a.put o.dst v) w') → wpOp P ops Q i next a w

theorem ps_indep {P : Program} {op : Op} {E : Ev} (h : isRd op = false) (H H' : List HO) : psOp P op E H = psOp P op E H' ∧ pvOp P op E H = pvOp P op E H' := by
  cases op
  case load => simp [isRd] at h
  case call c => obtain ⟨cal, xs, ts⟩ := c; cases cal <;> exact ⟨rfl, rfl⟩
  all_goals exact ⟨rfl, rfl⟩

def pt (r : AV) (H : List HO) : AV → List HO → Prop := fun r' H' => r' = r ∧ H' = H

theorem vcOp_pt {P : Program} {o : Oper} {E : Ev} {H : List HO} {K : AV → List HO → Prop} (h : vcOp P true o E H K) :
    ∃ r H', vcOp P true o E H (pt r H') ∧ K r H' ∧ (isW o.op = false → H' = H) ∧ (isRd o.op = false → isW o.op = false → ∀ H2, vcOp P true o E H2 (pt r H2)) := by
  unfold vcOp at h ⊢
  split at h
  · rename_i hp
    simp only [if_pos hp]
    refine ⟨_, H, ⟨h.1, rfl, rfl⟩, h.2, fun _ => rfl, fun hr _ H2 => ?_⟩
    have e := ps_indep (P := P) (E := E) hr H H2
    exact ⟨e.1 ▸ h.1, e.2.symm, rfl⟩
  · rename_i hp
    simp only [if_neg hp]
    split at h
    · rename_i ho
      rw [ho]
      exact ⟨_, H, ⟨h.1, rfl, rfl⟩, h.2, fun _ => rfl, fun _ _ H2 => ⟨h.1, rfl, rfl⟩⟩
    · rename_i ho
      rw [ho]
      refine ⟨_, _, ⟨h.1, rfl, rfl⟩, h.2, ?_, ?_⟩ <;> intro e1 <;> first | (cases e1; done) | (intro e2; cases e2)
    · rename_i ho
      rw [ho]
      split at h
      · rename_i z hz
        try simp only [hz]
        refine ⟨_, _, ⟨h.1, rfl, rfl⟩, h.2, ?_, ?_⟩ <;> intro e1 <;> first | (cases e1; done) | (intro e2; cases e2)
      · exact h.elim
    · rename_i ho
      rw [ho]
      split at h
      · rename_i i off ha
        split at h
        · rename_i cs hi
          try simp only [ha, hi]
          refine ⟨_, _, ⟨h.1, h.2.1, h.2.2.1, rfl, rfl⟩, h.2.2.2, ?_, ?_⟩ <;> intro e1 <;> first | (cases e1; done) | (intro e2; cases e2)
        · exact h.elim
      · exact h.elim
    · rename_i ho
      rw [ho]
      exact ⟨_, H, ⟨rfl, rfl⟩, h, fun _ => rfl, fun _ _ H2 => ⟨rfl, rfl⟩⟩
    · rename_i ho
      rw [ho]
      split at h
      · rename_i f first captured hf
        rw [if_pos rfl] at h
        obtain ⟨r, ht, hk⟩ := h
        try simp only [hf, if_true]
        exact ⟨r, H, ⟨r, ht, rfl, rfl⟩, hk, fun _ => rfl, fun _ _ H2 => ⟨r, ht, rfl, rfl⟩⟩
      · exact h.elim
    · have hw : isW o.op = false → xW o.op = false := by
        intro e
        unfold isW at e
        split at e <;> first | (cases e; done) | exact e
      have hrd : isRd o.op = false → xR o.op = false := by
        intro e
        unfold isRd at e
        split at e <;> first | (cases e; done) | exact e
      refine ⟨_, _, ⟨h.1, rfl, rfl⟩, h.2, fun e => x_still (hw e), fun e1 e2 H2 => ?_⟩
      have := x_indep (hw e2) (hrd e1) h.1 H2
      exact ⟨this.1, this.2, by rw [x_still (hw e2)]⟩

theorem vcG_pt {P : Program} {ops : Array Oper} {o : Oper} {e : Env} {H : List HO} {K : AV → List HO → Prop} (h : vcG P true ops o e H K) :
    ∃ r H', vcG P true ops o e H (pt r H') ∧ K r H' ∧ (isW o.op = false → H' = H) ∧ (isRd o.op = false → isW o.op = false → ∀ H2, vcG P true ops o e H2 (pt r H2)) := by
  unfold vcG at h ⊢
  split at h
  · rename_i hg
    try simp only [hg]
    exact vcOp_pt h
  · rename_i j want hg
    try simp only [hg]
    split at h
    · exact h.elim
    · rename_i t ht
      try simp only [ht]
      split at h
      · exact h.elim
      · rename_i g hgb
        try simp only [hgb]
        split at h
        · rename_i hp
          simp only [hp, if_true]
          refine ⟨_, H, ⟨h.1, rfl, rfl⟩, h.2, fun _ => rfl, fun hr _ H2 => ?_⟩
          have e2 := ps_indep (P := P) (E := gE o.op e) hr H H2
          exact ⟨fun hgt => ⟨(h.1 hgt).1, e2.1 ▸ (h.1 hgt).2⟩, by rw [e2.2], rfl⟩
        · rename_i hp
          split at h
          · rename_i x xs ts ho
            rw [ho]
            simp only [isP, Bool.false_eq_true, if_false]
            split at h
            · rename_i f first captured hf
              obtain ⟨r, h1, h2⟩ := h
              try simp only [hf]
              refine ⟨_, H, ⟨r, ?_, rfl, rfl⟩, h2, fun _ => rfl, fun _ _ H2 => ⟨r, ?_, rfl, rfl⟩⟩ <;> (rw [← ho]; exact h1)
            · exact h.elim
          · rename_i hne
            obtain ⟨h1, h2⟩ := h
            simp only [if_neg hp]
            cases hgv : g with
            | false =>
              subst hgv
              exact ⟨.tup [], H, ⟨fun x => absurd x (by simp), fun _ => ⟨rfl, rfl⟩⟩, h2 rfl, fun _ => rfl, fun _ _ H2 => ⟨fun x => absurd x (by simp), fun _ => ⟨rfl, rfl⟩⟩⟩
            | true =>
              subst hgv
              obtain ⟨g1, g2⟩ := h1 rfl
              obtain ⟨r, H', k1, k2, k3, k4⟩ := vcOp_pt g2
              exact ⟨r, H', ⟨fun _ => ⟨g1, k1⟩, fun x => absurd x (by simp)⟩, k2, k3, fun a b H2 => ⟨fun _ => ⟨g1, k4 a b H2⟩, fun x => absurd x (by simp)⟩⟩

/-- The chain's one link. -/
theorem vcG_step {P : Program} {ops : Array Oper} {o : Oper} {e : Env} {H : List HO} {K : AV → List HO → Prop} {i : Nat} (hi : ops[i]? = some o) (h : vcG P true ops o e H K) :
    ∃ r H', StepG P ops i o e H r H' ∧ K r H' ∧ (isW o.op = false → H' = H) ∧ (isRd o.op = false → isW o.op = false → ∀ H2, StepG P ops i o e H2 r H2) := by
  have of_G : ∀ {H1 H2 : List HO} {r : AV}, vcG P true ops o e H1 (pt r H2) → StepG P ops i o e H1 r H2 := by
    intro H1 H2 r hg w0 Γ w a next Q hr hl hk
    refine vcG_wp' hi hg w0 Γ w a next Q hr hl ?_
    rintro Γ' v r' H' w' g1 g2 g3 ⟨rfl, rfl⟩
    exact hk Γ' v w' g1 g2 g3
  obtain ⟨r, H', h1, h2, h3, h4⟩ := vcG_pt h
  exact ⟨r, H', of_G h1, h2, h3, fun a b H2 => of_G (h4 a b H2)⟩

end Go.Proofs.Ytgmhmdmfnmlhmaa.PL
