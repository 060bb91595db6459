/- A logic of plain values for functions of the program: what it shows of a function's code holds of each run (part b). -/
import Derived.Test.YtjplcdeaedflpaaGreatDoorPLa
import Derived.Laws.IdiomStrings
import Derived.Laws.Append
import Derived.Maps.RangeRun
import Derived.MapKept
import Derived.Laws.MakeOwn
set_option linter.unusedVariables false
set_option linter.unusedSimpArgs false
namespace Go.Proofs.YtjplcdeaedflpaaGreatDoor.PL
open Go.RowKit

/-! ### variables: a new one, a load, a store -/
theorem box_run {P : Program} {w0 : Bs} {Γ : Gh} {H : List HO} {w : World} {e : TypeId} {x : AV} {u : Value} (hr : R w0 Γ H w) (hx : VR Γ x u) (hok : x.okc = true) :
    ∃ Γ' v w', (Instr.box e u).run P w = .ok v w' ∧ Gh.Le Γ Γ' ∧ VR Γ' (.ptr H.length 0) v ∧ R w0 Γ' (H ++ [.box x.cells]) w' := by
  obtain ⟨h1, h2⟩ := hx.okc hok
  refine ⟨Γ.addB H.length w.heap.size, .pointer (some ⟨w.heap.size, 0, none⟩), w.alloc (.cells u.cells e), ?_, Gh.le_addB (hr.fresh _ (Nat.le_refl _)).1, ?_, hr.newBox e h1 h2⟩
  · simp only [Instr.box, newVar, newRow, Sem.run_bind, run_newObj, Result.andThen_ok, Sem.run_pure]; rfl
  · exact .ptr (by simp [Gh.addB])

theorem alloc_run {P : Program} {w0 : Bs} {Γ : Gh} {H : List HO} {w : World} {e : TypeId} {z : AV} (hr : R w0 Γ H w) (hz : zOf P e = some z) (hok : z.okc = true) :
    ∃ Γ' v w', (Instr.alloc e true (.tuple #[])).run P w = .ok v w' ∧ Gh.Le Γ Γ' ∧ VR Γ' (.ptr H.length 0) v ∧ R w0 Γ' (H ++ [.box z.cells]) w' := by
  obtain ⟨zv, hzr, hzv⟩ := zOf_run hz w
  obtain ⟨Γ', v, w', h1, h2⟩ := box_run (P := P) (e := e) hr (hzv Γ) hok
  refine ⟨Γ', v, w', ?_, h2⟩
  rw [← h1]
  simp only [Instr.alloc, Instr.box, Sem.run_bind, hzr, Result.andThen_ok]

theorem R.box {w0 : Bs} {Γ : Gh} {H : List HO} {w : World} (hr : R w0 Γ H w) {i : Nat} {cs : List AV} (hi : H[i]? = some (.box cs)) {b : Nat} (hb : Γ.B i = some b) :
    ∃ vals e, w.heap[b]? = some (.cells vals e (0, 0)) ∧ VRs Γ cs vals.toList ∧ AV.ones cs := by
  obtain ⟨bs, hobj, _⟩ := hr.obj
  obtain ⟨_, h1, ⟨vals, e, h2, h3⟩, h4, _⟩ := hobj i _ hi rfl
  rw [hb] at h1
  cases h1
  exact ⟨vals, e, h2, h3, h4⟩

def ldV (P : Program) (t : TypeId) (cs : List AV) (off : Nat) : AV :=
  match aggOf P t, szOf P t with
  | some true, some n => .agg ((cs.drop off).take n)
  | some false, _ => cs.getD off .any
  | _, _ => .any
def ldS (P : Program) (t : TypeId) (cs : List AV) (off : Nat) : Prop :=
  match aggOf P t, szOf P t with
  | some true, some n => off + n ≤ cs.length
  | some false, _ => off < cs.length
  | _, _ => False

theorem cell_in {w : World} {b : Nat} {vals : Array Value} {e : TypeId} {f : Nat × Nat} (h : w.heap[b]? = some (.cells vals e f)) (o : Nat) : w.cell? ⟨b, o, none⟩ = vals[o]? := by
  simp [World.cell?, h]

theorem ld_run {P : Program} {w0 : Bs} {Γ : Gh} {H : List HO} {w : World} {t : TypeId} {i off : Nat} {cs : List AV} {u : Value} (hr : R w0 Γ H w) (hx : VR Γ (.ptr i off) u) (hi : H[i]? = some (.box cs)) (hs : ldS P t cs off) :
    ∃ v, (Instr.loadAt t u).run P w = .ok v w ∧ VR Γ (ldV P t cs off) v := by
  cases hx with
  | @ptr _ _ b hb =>
  obtain ⟨vals, e, hw, hv, h1⟩ := hr.box hi hb
  unfold ldS at hs
  unfold ldV
  split at hs
  · rename_i n ha hn
    have hlen := hv.length
    have hl : (loadCells ⟨b, off, none⟩ n).run P w = .ok ((vals.toList.drop off).take n).toArray w := by
      have := run_loadCells_list (P := P) w ⟨b, off, none⟩ ((vals.toList.drop off).take n) (fun j v hj => by
        rw [addr_add, cell_in hw]
        rw [List.getElem?_take] at hj
        split at hj
        · rw [List.getElem?_drop] at hj; simpa using hj
        · cases hj)
      rwa [List.length_take, Nat.min_eq_left (by rw [List.length_drop]; omega)] at this
    refine ⟨.agg ((vals.toList.drop off).take n).toArray, by simp only [Instr.loadAt, Instr.sureAddr, Sem.run_bind, Sem.run_pure, Result.andThen_ok, loadVar, run_isAgg' ha, if_true, run_sizeOf' hn, hl], ?_⟩
    exact .agg (fun x hx => h1 x (List.mem_of_mem_drop (List.mem_of_mem_take hx))) ((hv.drop off).take n)
  · rename_i ha
    obtain ⟨v, hv1, hv2⟩ := hv.getD hs
    refine ⟨v, ?_, hv2⟩
    have hc : w.cell? ⟨b, off, none⟩ = some v := by rw [cell_in hw]; simpa using hv1
    simp only [Instr.loadAt, Instr.sureAddr, Sem.run_bind, Sem.run_pure, Result.andThen_ok, loadVar, run_isAgg' ha, Bool.false_eq_true, if_false, run_load, hc]
  · exact hs.elim

theorem grownBy_setRow (w : World) (b : Nat) (cur : Array Value) : w.grownBy (w.setRow b cur) (some b) :=
  ⟨rfl, rfl, rfl, by simp [World.setRow], fun k hk hne => by
    have : k ≠ b := by simpa using hne
    simp only [World.setRow, Array.getElem?_modify]
    rw [if_neg (fun e => this e.symm)]⟩

theorem st_run {P : Program} {w0 : Bs} {Γ : Gh} {H : List HO} {w : World} {t : TypeId} {i off : Nat} {cs : List AV} {x : AV} {u v : Value} (hr : R w0 Γ H w) (hp : VR Γ (.ptr i off) u) (hx : VR Γ x v)
    (hi : H[i]? = some (.box cs)) (hok : x.okc = true) (hn : szOf P t = some x.cells.length) (hf : off + x.cells.length ≤ cs.length) :
    ∃ w', (Instr.storeAt t u v).run P w = .ok () w' ∧ R w0 Γ (H.set i (.box (splice cs off x.cells))) w' := by
  cases hp with
  | @ptr _ _ b hb =>
  obtain ⟨hxc, hx1⟩ := hx.okc hok
  have hxl : v.cells.toList.length = x.cells.length := hxc.length.symm
  obtain ⟨b', hb0, hbl, hat, hput⟩ := hr.put hi rfl
  obtain ⟨hB, ⟨vals, e, hw, hv⟩, h1, hI⟩ := hat
  rw [hb] at hB
  cases hB
  have hlen := hv.length
  have hst := run_storeCells_at (P := P) b off e v.cells.toList 0 vals w hw (by simp only [Nat.add_zero]; rw [hxl, ← Array.length_toList, ← hlen]; exact hf) (fun c hc => hxc.one hx1 c hc)
  simp only [Nat.add_zero] at hst
  refine ⟨w.setRow b (vals.toList.take off ++ v.cells.toList ++ vals.toList.drop (off + v.cells.toList.length)).toArray, ?_, ?_⟩
  · have hsz : ¬ v.cells.size ≠ x.cells.length := by rw [← hxl, Array.length_toList]; simp
    simp only [Instr.storeAt, Instr.sureAddr, Sem.run_bind, Sem.run_pure, Result.andThen_ok, storeVar, run_sizeOf' hn, if_neg hsz, hst]
  · refine hput _ b Γ _ (grownBy_setRow w b _) (Gh.Le.refl Γ) (.inl rfl) ?_ ?_ (fun _ => rfl) (fun _ _ => rfl) rfl
    · intro _
      refine ⟨hb, ⟨_, e, setRow_heap w b vals _ e (0, 0) hw, ?_⟩, ?_, hI⟩
      · show VRs Γ (splice cs off x.cells) (vals.toList.take off ++ v.cells.toList ++ vals.toList.drop (off + v.cells.toList.length))
        unfold splice
        rw [hxl]
        exact ((hv.take off).append hxc).append (hv.drop _)
      · intro y hy
        simp only [splice, List.mem_append] at hy
        rcases hy with (hy | hy) | hy
        · exact h1 y (List.mem_of_mem_take hy)
        · exact hx1 y hy
        · exact h1 y (List.mem_of_mem_drop hy)
    · intro c o v h
      refine .inl ⟨h, ?_⟩
      rintro rfl
      rw [hI] at h; cases h

/-! ### a row: a load, a store -/
theorem R.row {w0 : Bs} {Γ : Gh} {H : List HO} {w : World} (hr : R w0 Γ H w) {i n sz : Nat} {cs : List AV} (hi : H[i]? = some (.row n sz cs)) {b cap : Nat} (hT : Γ.T i n = some (b, cap)) :
    ∃ cur e, w.heap[b]? = some (.cells cur e (0, 0)) ∧ cur.size = cap * sz ∧ n ≤ cap ∧ VRs Γ cs (cur.toList.take (n * sz)) ∧ AV.ones cs := by
  obtain ⟨bs, hobj, _⟩ := hr.obj
  obtain ⟨_, ⟨cap', cur, e, h1, h2, h3, h4, h5, h6⟩, h7, _⟩ := hobj i _ hi rfl
  rw [hT] at h1
  simp only [Option.some.injEq, Prod.mk.injEq] at h1
  obtain ⟨rfl, rfl⟩ := h1
  exact ⟨cur, e, h2, h3, h5, h6, h7⟩

theorem cells_ld {P : Program} {Γ : Gh} {w : World} {t : TypeId} {b off : Nat} {cs : List AV} {vals : Array Value} {e : TypeId} {L : List Value} (hw : w.heap[b]? = some (.cells vals e (0, 0))) (hL : ∀ (j : Nat) v, L[j]? = some v → vals[j]? = some v)
    (hv : VRs Γ cs L) (h1 : AV.ones cs) (hs : ldS P t cs off) : ∃ v, (loadVar t ⟨b, off, none⟩).run P w = .ok v w ∧ VR Γ (ldV P t cs off) v := by
  unfold ldS at hs
  unfold ldV
  split at hs
  · rename_i n ha hn
    have hlen := hv.length
    have hl : (loadCells ⟨b, off, none⟩ n).run P w = .ok ((L.drop off).take n).toArray w := by
      have := run_loadCells_list (P := P) w ⟨b, off, none⟩ ((L.drop off).take n) (fun j v hj => by
        rw [addr_add, cell_in hw]
        rw [List.getElem?_take] at hj
        split at hj
        · rw [List.getElem?_drop] at hj; exact hL _ _ hj
        · cases hj)
      rwa [List.length_take, Nat.min_eq_left (by rw [List.length_drop]; omega)] at this
    refine ⟨.agg ((L.drop off).take n).toArray, by simp only [Sem.run_bind, Sem.run_pure, Result.andThen_ok, loadVar, run_isAgg' ha, if_true, run_sizeOf' hn, hl], ?_⟩
    exact .agg (fun x hx => h1 x (List.mem_of_mem_drop (List.mem_of_mem_take hx))) ((hv.drop off).take n)
  · rename_i ha
    obtain ⟨v, hv1, hv2⟩ := hv.getD hs
    refine ⟨v, ?_, hv2⟩
    have hc : w.cell? ⟨b, off, none⟩ = some v := by rw [cell_in hw]; exact hL _ _ hv1
    simp only [Sem.run_bind, Sem.run_pure, Result.andThen_ok, loadVar, run_isAgg' ha, Bool.false_eq_true, if_false, run_load, hc]
  · exact hs.elim

theorem eld_run {P : Program} {w0 : Bs} {Γ : Gh} {H : List HO} {w : World} {t : TypeId} {i n sz off : Nat} {cs : List AV} {u : Value} (hr : R w0 Γ H w) (hx : VR Γ (.eptr i n off) u) (hi : H[i]? = some (.row n sz cs)) (hs : ldS P t cs off) :
    ∃ v, (Instr.loadAt t u).run P w = .ok v w ∧ VR Γ (ldV P t cs off) v := by
  cases hx with
  | @eptr _ _ _ b cap hT =>
  obtain ⟨cur, e, hw, _, _, hv, h1⟩ := hr.row hi hT
  obtain ⟨v, k1, k2⟩ := cells_ld (P := P) (t := t) (off := off) hw (L := cur.toList.take (n * sz)) (fun j v hj => by
    rw [List.getElem?_take] at hj
    split at hj
    · simpa using hj
    · cases hj) hv h1 hs
  exact ⟨v, by simp only [Instr.loadAt, Instr.sureAddr, Sem.run_bind, Sem.run_pure, Result.andThen_ok, k1], k2⟩

theorem splice_take {α : Type} {l v : List α} {o k : Nat} (h : o + v.length ≤ k) (hk : k ≤ l.length) : (splice l o v).take k = splice (l.take k) o v := by
  unfold splice
  rw [List.take_append, List.take_append, List.take_of_length_le (l := l.take o) (by simp; omega), List.take_of_length_le (l := v) (by simp; omega)]
  rw [List.take_take, Nat.min_eq_left (by omega), List.drop_take]
  congr 2
  simp
  omega

theorem est_run {P : Program} {w0 : Bs} {Γ : Gh} {H : List HO} {w : World} {t : TypeId} {i n sz off : Nat} {cs : List AV} {x : AV} {u v : Value} (hr : R w0 Γ H w) (hp : VR Γ (.eptr i n off) u) (hx : VR Γ x v)
    (hi : H[i]? = some (.row n sz cs)) (hok : x.okc = true) (hn : szOf P t = some x.cells.length) (hf : off + x.cells.length ≤ cs.length) :
    ∃ w', (Instr.storeAt t u v).run P w = .ok () w' ∧ R w0 Γ (H.set i (.row n sz (splice cs off x.cells))) w' := by
  cases hp with
  | @eptr _ _ _ b cap hT =>
  obtain ⟨hxc, hx1⟩ := hx.okc hok
  have hxl : v.cells.toList.length = x.cells.length := hxc.length.symm
  obtain ⟨b', hb0, hbl, hat, hput⟩ := hr.put hi rfl
  obtain ⟨⟨cap', cur, e, hT', hw, hsz, hmax, hnc, hv⟩, h1, hI, hTn⟩ := hat
  rw [hT] at hT'
  simp only [Option.some.injEq, Prod.mk.injEq] at hT'
  obtain ⟨rfl, rfl⟩ := hT'
  have hlen := hv.length
  have hcl : n * sz ≤ cur.toList.length := by rw [Array.length_toList, hsz]; exact Nat.mul_le_mul_right _ hnc
  rw [List.length_take, Nat.min_eq_left hcl] at hlen
  have hst := run_storeCells_at (P := P) b off e v.cells.toList 0 cur w hw (by simp only [Nat.add_zero]; rw [hxl]; rw [Array.length_toList] at hcl; omega) (fun c hc => hxc.one hx1 c hc)
  simp only [Nat.add_zero] at hst
  refine ⟨w.setRow b (cur.toList.take off ++ v.cells.toList ++ cur.toList.drop (off + v.cells.toList.length)).toArray, ?_, ?_⟩
  · have hsz : ¬ v.cells.size ≠ x.cells.length := by rw [← hxl, Array.length_toList]; simp
    simp only [Instr.storeAt, Instr.sureAddr, Sem.run_bind, Sem.run_pure, Result.andThen_ok, storeVar, run_sizeOf' hn, if_neg hsz, hst]
  · refine hput _ b Γ _ (grownBy_setRow w b _) (Gh.Le.refl Γ) (.inl rfl) ?_ ?_ (fun _ => rfl) (fun _ _ => rfl) rfl
    · intro _
      refine ⟨⟨cap, _, e, hT, setRow_heap w b cur _ e (0, 0) hw, ?_, hmax, hnc, ?_⟩, ?_, hI, hTn⟩
      · rw [← hsz]
        simp
        rw [Array.length_toList] at hcl
        have := Array.length_toList (xs := v.cells)
        omega
      · show VRs Γ (splice cs off x.cells) ((splice cur.toList off v.cells.toList).take (n * sz))
        rw [splice_take (by omega) hcl]
        unfold splice
        rw [hxl]
        exact ((hv.take off).append hxc).append (hv.drop _)
      · intro y hy
        simp only [splice, List.mem_append] at hy
        rcases hy with (hy | hy) | hy
        · exact h1 y (List.mem_of_mem_take hy)
        · exact hx1 y hy
        · exact h1 y (List.mem_of_mem_drop hy)
    · intro c o v h
      refine .inl ⟨h, ?_⟩
      rintro rfl
      rw [hI] at h; cases h

/-! ### calls -/
def Callable (P : Program) (f : FuncId) : Prop := ∃ fn, P.funcs[f]? = some fn ∧ (fn.name == "runtime.NumGoroutine") = false ∧ fn.body.isSome = true

/-- A call of a function with a body, or of one that the machine knows itself. -/
def CallsX (P : Program) (f : FuncId) (vs : Array Value) (w : World) (Φ : Ending → World → Prop) : Prop :=
  (Callable P f ∧ Calls P f vs w Φ) ∨ ∃ v, (callFunc f vs).run P w = .ok (.value v) w ∧ Φ (.returned v) w
theorem CallsX.mono {P : Program} {f : FuncId} {vs : Array Value} {w : World} {Φ Ψ : Ending → World → Prop} (h : CallsX P f vs w Φ) (k : ∀ e w', Φ e w' → Ψ e w') : CallsX P f vs w Ψ := by
  rcases h with ⟨h1, h2⟩ | ⟨v, h1, h2⟩
  · exact .inl ⟨h1, h2.mono k⟩
  · exact .inr ⟨v, h1, k _ _ h2⟩
theorem CallsX.calls {P : Program} {f : FuncId} {vs : Array Value} {w : World} {Φ : Ending → World → Prop} (hc : Callable P f) (h : CallsX P f vs w Φ) : Calls P f vs w Φ := by
  rcases h with ⟨_, h⟩ | ⟨v, h, _⟩
  · exact h
  · exfalso
    obtain ⟨fn, hc1, hc2, hc3⟩ := hc
    have hb : ¬ fn.body = none := by intro e; rw [e] at hc3; cases hc3
    have hn : ¬ fn.name = "runtime.NumGoroutine" := by simpa using hc2
    have : (callFunc f vs).run P w = .ok (.enter f vs) w := by simp [callFunc, hc1, hn, hb]
    rw [this] at h
    cases h

/-- What a call does, told: from whatever memory that fits. -/
def TS (P : Program) (f : FuncId) (args : List AV) (H : List HO) (K : AV → List HO → Prop) : Prop :=
  ∀ (w0 : Bs) (Γ : Gh) (w : World) (vs : List Value), R w0 Γ H w → VRs Γ args vs →
    CallsX P f vs.toArray w fun e w' => ∃ Γ' v r H', e = .returned v ∧ Gh.Le Γ Γ' ∧ VR Γ' r v ∧ R w0 Γ' H' w' ∧ K r H'

def PI (I : Nat → Nat → Option Value) : Gh := ⟨I, fun _ => none, fun _ _ => none⟩

/-- A call of plain values that tells a plain value. -/
def T (P : Program) (f : FuncId) (args : List AV) (r : AV) : Prop :=
  ∀ (I : Nat → Nat → Option Value) (w : World) (vs : List Value), Glob w → (∀ b o v, I b o = some v → w.cell? ⟨b, o, none⟩ = some v) → VRs (PI I) args vs →
    CallsX P f vs.toArray w fun e w' => ∃ I' v, e = .returned v ∧ (∀ b o v, I b o = some v → I' b o = some v) ∧ (∀ b o v, I' b o = some v → I b o = some v ∨ (w.heap.size ≤ b ∧ w'.cell? ⟨b, o, none⟩ = some v)) ∧
      VR (PI I') r v ∧ Below w.heap.size w w'

/-- A plain value that says no more than another. -/
def Cl (x y : AV) : Prop := ∀ Γ v, VR Γ x v → VR (PI Γ.I) y v
inductive Cls : List AV → List AV → Prop
  | nil : Cls [] []
  | cons {x y : AV} {xs ys : List AV} (h : Cl x y) (t : Cls xs ys) : Cls (x :: xs) (y :: ys)
theorem Cls.VRs {Γ : Gh} : ∀ {xs ys : List AV} {vs : List Value}, Cls xs ys → VRs Γ xs vs → VRs (PI Γ.I) ys vs
  | _, _, _, .nil, .nil => .nil
  | _, _, _, .cons h t, .cons r u => .cons (h _ _ r) (t.VRs u)

theorem TS.of_T {P : Program} {f : FuncId} {args ys : List AV} {H : List HO} {K : AV → List HO → Prop} {r : AV} (h : T P f ys r) (hc : Cls args ys) (hk : K r H) : TS P f args H K := by
  refine fun w0 Γ w vs hr hv => (h Γ.I w vs (hr.glo.mono hr.below) hr.imm (hc.VRs hv)).mono ?_
  rintro e w' ⟨I', v, rfl, h1, h2, h3, h4⟩
  have le : Gh.Le Γ { Γ with I := I' } := ⟨h1, fun _ _ h => h, fun _ _ _ h => h⟩
  refine ⟨{ Γ with I := I' }, v, r, H, rfl, le, VR.mono (Γ := PI I') (Δ := { Γ with I := I' }) ⟨fun _ _ _ h => h, fun _ _ h => (by cases h), fun _ _ _ h => (by cases h)⟩ h3, ?_, hk⟩
  exact hr.more h4 le h2 rfl rfl

theorem TS.mono {P : Program} {f : FuncId} {args : List AV} {H : List HO} {K K' : AV → List HO → Prop} (h : TS P f args H K) (hk : ∀ r H', K r H' → K' r H') : TS P f args H K' :=
  fun w0 Γ w vs hr hv => (h w0 Γ w vs hr hv).mono fun e w' ⟨Γ', v, r, H', h1, h2, h3, h4, h5⟩ => ⟨Γ', v, r, H', h1, h2, h3, h4, hk _ _ h5⟩

/-- A call of plain values, out of its body's. -/
theorem T.of_TS {P : Program} {f : FuncId} {args : List AV} {r : AV} (h : TS P f args [] fun r' _ => Cl r' r) : T P f args r := by
  refine fun I w vs hg hi hv => ?_
  have hr : R ⟨w, I⟩ (PI I) [] w := ⟨hg, Below.refl _ _, hi, ⟨fun _ => 0, by simp, by simp⟩, fun _ _ => ⟨rfl, fun _ => rfl⟩, fun _ _ _ _ h => h, fun i hi => (by simp at hi)⟩
  have hc := h ⟨w, I⟩ (PI I) w vs hr hv
  refine hc.mono ?_
  rintro e w' ⟨Γ', v, r', H', rfl, le, h2, h3, h4⟩
  refine ⟨Γ'.I, v, rfl, le.I, ?_, h4 _ _ h2, h3.below⟩
  intro b o u hu
  rcases Nat.lt_or_ge b w.heap.size with hlt | hge
  · exact .inl (h3.old b o u hlt hu)
  · exact .inr ⟨hge, h3.imm b o u hu⟩

end Go.Proofs.YtjplcdeaedflpaaGreatDoor.PL

namespace Go.Proofs.YtjplcdeaedflpaaGreatDoor.PL
open Go.RowKit

/-! ### len, min, max, not, conversions -/
def lenV (x : AV) : AV := match x with | .sl _ xs => .int .i64 xs.length | .str s => .int .i64 s.size | .mv _ _ _ _ len => .int .i64 len | _ => .any
def lenS (P : Program) (t : TypeId) (x : AV) : Prop :=
  match x with
  | .sl _ _ => match P.underlying t with | some (.slice _) => True | _ => False
  | .str _ => P.underlying t = some .string
  | .mv _ _ _ _ _ => match P.underlying t with | some (.slice _) => True | _ => False
  | _ => False
def mnV (x y : AV) : AV := match x, y with | .int k a, .int _ b => .int k (if b < a then b else a) | _, _ => .any
def mxV (x y : AV) : AV := match x, y with | .int k a, .int _ b => .int k (if b > a then b else a) | _, _ => .any
def mmS (x y : AV) : Prop := match x, y with | .int k _, .int k' _ => k = k' | _, _ => False
def unV (op : UnOp) (x : AV) : AV :=
  match op, x with
  | .not, .bool b => .bool (!b)
  | .neg, .int k n => .int k (k.wrap (0 - n))
  | _, _ => .any
def unS (op : UnOp) (x : AV) : Prop := match op, x with | .not, .bool _ => True | .neg, .int _ _ => True | _, _ => False
def avByte (y : AV) : UInt8 := match y with | .int _ n => UInt8.ofNat n.toNat | _ => 0
def isByte (y : AV) : Prop := match y with | .int .u8 n => 0 ≤ n ∧ n < 256 | _ => False
def cvV (P : Program) (s d : TypeId) (x : AV) : AV :=
  match x with
  | .int _ n => match P.underlying d with | some (.int k) => .int k (k.wrap n) | _ => .any
  | .str s => .str s
  | .sl _ ys => .str ⟨(ys.map avByte).toArray⟩
  | _ => .any
def cvS (P : Program) (s d : TypeId) (x : AV) : Prop :=
  match x with
  | .int _ _ => (match P.underlying s with | some _ => True | none => False) ∧ match P.underlying d with | some (.int _) => True | _ => False
  | .str _ => P.underlying s = some .string ∧ P.underlying d = some .string
  | .sl _ ys => (match P.underlying s with | some (.slice e) => P.underlying e = some (.int .u8) | _ => False) ∧ P.underlying d = some .string ∧ ∀ y, y ∈ ys → isByte y
  | _ => False

theorem len_run {P : Program} {Γ : Gh} {w : World} {t : TypeId} {ts : Array TypeId} {ty : TypeId} {x : AV} {u : Value} (ht : ts[0]? = some t) (hs : lenS P t x) (hx : VR Γ x u) :
    ∃ v, (Builtin.len_ ts ty #[u]).run P w = .ok v w ∧ VR Γ (lenV x) v := by
  unfold lenS at hs
  split at hs
  · obtain ⟨a, cap, rfl, _⟩ := hx.sl_inv
    split at hs
    · rename_i e hu
      refine ⟨.int .i64 _, ?_, .int _ _⟩
      simp [Builtin.len_, ht, run_underlying' hu, goInt]
    · exact hs.elim
  · cases hx
    refine ⟨.int .i64 _, ?_, .int _ _⟩
    simp [Builtin.len_, ht, run_underlying' hs, goInt]
  · split at hs
    · rename_i e hu
      cases hx
      refine ⟨.int .i64 _, ?_, .int _ _⟩
      simp [Builtin.len_, ht, run_underlying' hu, goInt]
    · exact hs.elim
  · exact hs.elim

theorem mn_run {P : Program} {Γ : Gh} {w : World} {x y : AV} {u v : Value} (hs : mmS x y) (hx : VR Γ x u) (hy : VR Γ y v) : ∃ r, (Builtin.min2 u v).run P w = .ok r w ∧ VR Γ (mnV x y) r := by
  unfold mmS at hs
  split at hs
  · cases hx; cases hy; exact ⟨_, rfl, .int _ _⟩
  · exact hs.elim
theorem mx_run {P : Program} {Γ : Gh} {w : World} {x y : AV} {u v : Value} (hs : mmS x y) (hx : VR Γ x u) (hy : VR Γ y v) : ∃ r, (Builtin.max2 u v).run P w = .ok r w ∧ VR Γ (mxV x y) r := by
  unfold mmS at hs
  split at hs
  · cases hx; cases hy; exact ⟨_, rfl, .int _ _⟩
  · exact hs.elim
theorem un_run {P : Program} {Γ : Gh} {w : World} {op : UnOp} {x : AV} {u : Value} (hs : unS op x) (hx : VR Γ x u) : ∃ r, (Op.unary op u).run P w = .ok r w ∧ VR Γ (unV op x) r := by
  unfold unS at hs
  split at hs
  · cases hx; exact ⟨_, rfl, .bool _⟩
  · cases hx; exact ⟨_, rfl, .int _ _⟩
  · exact hs.elim
theorem cv_run {P : Program} {Γ : Gh} {w : World} {s d : TypeId} {x : AV} {u : Value} (hi : ∀ b o v, Γ.I b o = some v → w.cell? ⟨b, o, none⟩ = some v) (hs : cvS P s d x) (hx : VR Γ x u) : ∃ r, (convert s d u).run P w = .ok r w ∧ VR Γ (cvV P s d x) r := by
  unfold cvS at hs
  split at hs
  · obtain ⟨h1, h2⟩ := hs
    split at h1
    · rename_i ds hds
      split at h2
      · rename_i k hk
        cases hx
        unfold cvV
        simp only [hk]
        refine ⟨_, ?_, .int _ _⟩
        cases ds <;> simp [convert, run_underlying' hds, run_underlying' hk, Conv.intToInt] <;> rfl
      · exact h2.elim
    · exact h1.elim
  · cases hx
    exact ⟨_, by simp [convert, run_underlying' hs.1, run_underlying' hs.2], .str _⟩
  · rename_i own ys
    obtain ⟨h1, h2, h3⟩ := hs
    split at h1
    · rename_i e he
      unfold cvV
      have hb : ∀ y, y ∈ ys → y = .int .u8 ((avByte y).toNat : Int) := by
        intro y hy
        have := h3 y hy
        unfold isByte at this
        split at this
        · rename_i n
          simp only [avByte]
          congr 1
          have : n.toNat % 256 = n.toNat := Nat.mod_eq_of_lt (by omega)
          simp [UInt8.toNat_ofNat', this]
          omega
        · exact this.elim
      have hys : ys = (ys.map avByte).map fun b => .int .u8 (b.toNat : Int) := by
        rw [List.map_map]
        conv => lhs; rw [← List.map_id ys]
        exact List.map_congr_left fun y hy => hb y hy
      obtain ⟨a, cap, rfl, ho, hc, hn⟩ := hx.sl_inv
      refine ⟨.string ⟨(ys.map avByte).toArray⟩, ?_, .str _⟩
      by_cases h0 : ys = []
      · subst h0
        cases a with
        | none => rw [run_convert_bytes_string w s d e none _ cap he h1 h2]; rfl
        | some a => exact run_convert_bytes_back w s d e a cap [] he h1 h2 (fun j hj => absurd hj (by simp))
      · obtain ⟨b, o, sz, vs, rfl, k1, k2, k3, k4⟩ := hn h0
        have := run_convert_bytes_back w s d e ⟨b, o, none⟩ cap (ys.map avByte) he h1 h2 ?_
        · rw [List.length_map] at this; exact this
        · intro j hj
          have hfl : ys.flatMap AV.cells = ys := by
            rw [hys]; generalize ys.map avByte = l
            induction l with
            | nil => rfl
            | cons b l ih => simp only [List.map_cons, List.flatMap_cons, ih]; rfl
          rw [hfl] at k3
          have hj' : j < ys.length := by simpa using hj
          obtain ⟨v, g1, g2⟩ := k3.get j ys[j] (List.getElem?_eq_getElem hj')
          have hyj := hb ys[j] (List.getElem_mem hj')
          rw [hyj] at g2
          cases g2
          have hadd : (⟨b, o, none⟩ : Addr).add j = ⟨b, o + j, none⟩ := by clear hn hi hb hys hx h3 k1 k2 k3 k4 g1 hyj hfl; unfold Addr.add; split <;> simp_all
          rw [hadd, hi _ _ _ (k4 j _ g1), List.getElem_map]
    · exact h1.elim
  · exact hs.elim

/-! ### all operations that change nothing -/
def nchkS (x : AV) : Prop := match x with | .ptr _ _ | .eptr _ _ _ | .ref _ | .fn (.func _) _ _ => True | _ => False

def isP : Op → Bool
  | .move _ | .assign _ | .pick .. | .binOp .. | .unOp .. | .convert .. | .load .. | .fieldAddr .. | .field .. | .indexAddr .. | .index .. | .slice .. | .extract .. | .nilCheck _ | .build .. => true
  | .call { callee := .builtin .len, .. } | .call { callee := .builtin .min, .. } | .call { callee := .builtin .max, .. } => true
  | _ => false

def ldpV (P : Program) (t : TypeId) (x : AV) (H : List HO) : AV :=
  match x with
  | .ptr i off => match H[i]? with | some (.box cs) => ldV P t cs off | _ => .any
  | .eptr i n off => match H[i]? with | some (.row m _ cs) => if m = n then ldV P t cs off else .any | _ => .any
  | x => loadV P t x
def ldpS (P : Program) (t : TypeId) (x : AV) (H : List HO) : Prop :=
  match x with
  | .ptr i off => match H[i]? with | some (.box cs) => ldS P t cs off | _ => False
  | .eptr i n off => match H[i]? with | some (.row m _ cs) => m = n ∧ ldS P t cs off | _ => False
  | x => loadS P t x

def biV (b : Builtin) (xs : List AV) : AV :=
  match b, xs with
  | .len, [x] => lenV x
  | .min, [x, y] => mnV x y
  | .max, [x, y] => mxV x y
  | _, _ => .any
def biS (P : Program) (b : Builtin) (ts : Array TypeId) (xs : List AV) : Prop :=
  match b, xs with
  | .len, [x] => match ts[0]? with | some t => lenS P t x | none => False
  | .min, [x, y] => mmS x y
  | .max, [x, y] => mmS x y
  | _, _ => False

def pvOp (P : Program) (op : Op) (E : Ev) (H : List HO) : AV :=
  match op with
  | .move x | .assign x | .nilCheck x => E x
  | .pick c a b => pickV (E c) (E a) (E b)
  | .binOp op _ x y _ => binV op (E x) (E y)
  | .unOp op _ x => unV op (E x)
  | .convert s d x => cvV P s d (E x)
  | .load t a => ldpV P t (E a) H
  | .fieldAddr s a f => faV P s (E a) f
  | .field t x f => fdV P t (E x) f
  | .indexAddr t a i => iaV P t (E a) (E i)
  | .index t x i => ixV P t (E x) (E i)
  | .slice _ x lo hi mx => slcV (E x) (lo.map E) (hi.map E) (mx.map E)
  | .extract x i => exV (E x) i
  | .build t parts => bldV P t (parts.toList.map fun p => (p.1, E p.2))
  | .call { callee := .builtin b, args := xs, .. } => biV b (xs.toList.map E)
  | _ => .any
def psOp (P : Program) (op : Op) (E : Ev) (H : List HO) : Prop :=
  match op with
  | .move _ | .assign _ => True
  | .nilCheck x => nchkS (E x)
  | .pick c a b => pickS (E c) (E a) (E b)
  | .binOp op t x y _ => binS P op t (E x) (E y)
  | .unOp op _ x => unS op (E x)
  | .convert s d x => cvS P s d (E x)
  | .load t a => ldpS P t (E a) H
  | .fieldAddr s a f => faS P s (E a) f
  | .field t x f => fdS P t (E x) f
  | .indexAddr t a i => iaS P t (E a) (E i)
  | .index t x i => ixS P t (E x) (E i)
  | .slice t x lo hi mx => slcS P t (E x) (lo.map E) (hi.map E) (mx.map E)
  | .extract x i => exS (E x) i
  | .build t parts => bldS P t (parts.toList.map fun p => (p.1, E p.2))
  | .call { callee := .builtin b, args := xs, argTypes := ts } => biS P b ts (xs.toList.map E)
  | _ => False

theorem VRo.map {Γ : Gh} {E : Ev} {ρ : Operand → Value} {x : Option Operand} (h : ∀ y, x = some y → VR Γ (E y) (ρ y)) : VRo Γ (x.map E) (x.map ρ) := by
  cases x with
  | none => trivial
  | some y => exact h y rfl

theorem VRp.map {Γ : Gh} {E : Ev} {ρ : Operand → Value} : ∀ {l : List (Nat × Operand)}, (∀ p, p ∈ l → VR Γ (E p.2) (ρ p.2)) → VRp Γ (l.map fun p => (p.1, E p.2)) (l.map fun p => (p.1, ρ p.2))
  | [], _ => .nil
  | p :: l, h => .cons (h p (List.mem_cons_self ..)) (VRp.map fun q hq => h q (List.mem_cons_of_mem _ hq))

theorem VRs.map {Γ : Gh} {E : Ev} {ρ : Operand → Value} : ∀ {l : List Operand}, (∀ p, p ∈ l → VR Γ (E p) (ρ p)) → VRs Γ (l.map E) (l.map ρ)
  | [], _ => .nil
  | p :: l, h => .cons (h p (List.mem_cons_self ..)) (VRs.map fun q hq => h q (List.mem_cons_of_mem _ hq))

theorem pure_ok {P : Program} {o : Oper} {E : Ev} {H : List HO} (hp : isP o.op = true) (hs : psOp P o.op E H) : OpT P o E H (pvOp P o.op E H) H := by
  obtain ⟨dst, op, ty, pos, after, guard⟩ := o
  dsimp only at hp hs ⊢
  have key : ∀ (w0 : Bs) (Γ : Gh) (w : World) (ρ : Operand → Value), R w0 Γ H w → (∀ x, x ∈ op.operands → VR Γ (E x) (ρ x)) →
      ∃ v, (execOp ρ ⟨dst, op, ty, pos, after, guard⟩).run P w = .ok (.value v) w ∧ VR Γ (pvOp P op E H) v := by
    intro w0 Γ w ρ hr hx
    have lift : ∀ {s : Sem Value} {r : AV}, (∃ v, s.run P w = .ok v w ∧ VR Γ r v) → ∃ v, (do pure (Next.value (← s)) : Sem Next).run P w = .ok (.value v) w ∧ VR Γ r v := by
      rintro s r ⟨v, h1, h2⟩
      exact ⟨v, by simp [h1], h2⟩
    cases op <;> simp only [isP, Bool.false_eq_true] at hp <;> simp only [psOp] at hs <;> simp only [pvOp]
    case move x => exact ⟨ρ x, rfl, hx x (by simp [Op.operands])⟩
    case assign x => exact ⟨ρ x, rfl, hx x (by simp [Op.operands])⟩
    case pick c a b =>
      obtain ⟨v, h1, h2⟩ := pick_run (P := P) (w := w) hs (hx c (by simp [Op.operands])) (hx a (by simp [Op.operands])) (hx b (by simp [Op.operands]))
      refine ⟨v, ?_, h2⟩
      simp only [Sem.run_bind] at h1
      simp only [execOp, Sem.run_bind]
      cases hb : (asBool (ρ c)).run P w with
      | ok b' w' =>
        rw [hb] at h1
        simp only [Result.andThen_ok, Sem.run_pure, Result.ok.injEq] at h1 ⊢
        exact ⟨by rw [h1.1], h1.2⟩
      | halt h w' => rw [hb] at h1; simp at h1
    case binOp op t x y t2 => exact lift (run_bin w hs (hx x (by simp [Op.operands])) (hx y (by simp [Op.operands])))
    case unOp op t x => exact lift (un_run hs (hx x (by simp [Op.operands])))
    case convert s d x => exact lift (cv_run hr.imm hs (hx x (by simp [Op.operands])))
    case load t a =>
      have ha := hx a (by simp [Op.operands])
      generalize E a = z at ha hs
      by_cases hz : ∃ i off, z = .ptr i off
      · obtain ⟨i, off, rfl⟩ := hz
        simp only [ldpS] at hs
        simp only [ldpV]
        split at hs
        · rename_i cs hc
          exact lift (ld_run hr ha hc hs)
        · exact hs.elim
      · by_cases hz2 : ∃ i n off, z = .eptr i n off
        · obtain ⟨i, n, off, rfl⟩ := hz2
          simp only [ldpS] at hs
          simp only [ldpV]
          split at hs
          · rename_i m sz cs hc
            obtain ⟨rfl, hs⟩ := hs
            rw [if_pos rfl]
            exact lift (eld_run hr ha hc hs)
          · exact hs.elim
        · have e1 : ldpS P t z H = loadS P t z := by cases z <;> first | rfl | exact absurd ⟨_, _, rfl⟩ hz | exact absurd ⟨_, _, _, rfl⟩ hz2
          have e2 : ldpV P t z H = loadV P t z := by cases z <;> first | rfl | exact absurd ⟨_, _, rfl⟩ hz | exact absurd ⟨_, _, _, rfl⟩ hz2
          rw [e1] at hs
          rw [e2]
          exact lift (load_run hr.imm hs ha)
    case fieldAddr s a f => exact lift (fa_run hs (hx a (by simp [Op.operands])))
    case field t x f => exact lift (fd_run hs (hx x (by simp [Op.operands])))
    case indexAddr t a i => exact lift (ia_run hs (hx a (by simp [Op.operands])) (hx i (by simp [Op.operands])))
    case index t x i => exact lift (ix_run hs (hx x (by simp [Op.operands])) (hx i (by simp [Op.operands])))
    case slice t x lo hi mx =>
      refine lift (slc_run hs (hx x (by simp [Op.operands])) (VRo.map fun y hy => hx y ?_) (VRo.map fun y hy => hx y ?_) (VRo.map fun y hy => hx y ?_)) <;> (subst hy; simp [Op.operands])
    case extract x i => exact lift (ex_run hs (hx x (by simp [Op.operands])))
    case nilCheck x =>
      have h := hx x (by simp [Op.operands])
      refine ⟨ρ x, ?_, h⟩
      unfold nchkS at hs
      generalize hE : E x = z at hs h
      generalize hρ : ρ x = u at h
      cases h <;> first | exact hs.elim | (simp only [execOp, hρ]; rfl) | skip
      rename_i f _ _ _ _ _ _
      cases f <;> first | exact hs.elim | (simp only [execOp, hρ]; rfl)
    case build t parts =>
      have := bld_run (P := P) (Γ := Γ) (w := w) hs (VRp.map (ρ := ρ) (l := parts.toList) fun p hp => hx p.2 (by
        simp only [Op.operands, List.mem_toArray, List.mem_map]
        simp
        exact ⟨p.1, by simpa using hp⟩))
      have e : (parts.toList.map fun p => (p.1, ρ p.2)).toArray = parts.map fun p => (p.1, ρ p.2) := by
        apply Array.ext'; simp
      rw [e] at this
      exact lift this
    case call c =>
      obtain ⟨callee, xs, ts⟩ := c
      cases callee with
      | value f => simp only [isP, Bool.false_eq_true] at hp
      | invoke r m => simp only [isP, Bool.false_eq_true] at hp
      | builtin b =>
        have hxs : ∀ p, p ∈ xs.toList → VR Γ (E p) (ρ p) := fun p hp => hx p (by simp [Op.operands, Call.operands]; simpa using hp)
        simp only at hs
        obtain ⟨l⟩ := xs
        dsimp only at hs hxs ⊢
        unfold biS at hs
        split at hs
        · rename_i e
          match l, e, hxs with
          | [y], e, hxs =>
            simp at e; subst e
            split at hs
            · rename_i t ht
              obtain ⟨v, h1, h2⟩ := len_run (P := P) (w := w) (ty := ty) ht hs (hxs y (by simp))
              exact ⟨v, by simp [execOp, resolve, invoke, builtin, h1], h2⟩
            · exact hs.elim
        · rename_i e
          match l, e, hxs with
          | [y, z], e, hxs =>
            simp at e; obtain ⟨rfl, rfl⟩ := e
            obtain ⟨v, h1, h2⟩ := mn_run (P := P) (w := w) hs (hxs y (by simp)) (hxs z (by simp))
            exact ⟨v, by simp [execOp, resolve, invoke, builtin, Builtin.min_, h1], h2⟩
        · rename_i e
          match l, e, hxs with
          | [y, z], e, hxs =>
            simp at e; obtain ⟨rfl, rfl⟩ := e
            obtain ⟨v, h1, h2⟩ := mx_run (P := P) (w := w) hs (hxs y (by simp)) (hxs z (by simp))
            exact ⟨v, by simp [execOp, resolve, invoke, builtin, Builtin.max_, h1], h2⟩
        · exact hs.elim
  exact OpT.value fun w0 Γ w ρ hr hx => by
    obtain ⟨v, h1, h2⟩ := key w0 Γ w ρ hr hx
    exact ⟨Γ, v, w, h1, Gh.Le.refl Γ, h2, hr⟩

end Go.Proofs.YtjplcdeaedflpaaGreatDoor.PL

namespace Go.Proofs.YtjplcdeaedflpaaGreatDoor.PL
open Go.RowKit

/-! ### slices that grow -/
theorem sl_first {Γ : Gh} {own : Own} {ys : List AV} {v : Value} {sz : Nat} (hv : VR Γ (.sl own ys) v) (hs : ∀ y, y ∈ ys → y.cells.length = sz) :
    ∃ a cap vs, v = .slice a ys.length cap ∧ own.fits Γ ys.length a cap ∧ ys.length ≤ cap ∧ VRs Γ (ys.flatMap AV.cells) vs ∧ AV.ones (ys.flatMap AV.cells) ∧ vs.length = ys.length * sz ∧ (ys ≠ [] → ∃ b o, a = some ⟨b, o, none⟩ ∧ Γ.At b o vs) := by
  obtain ⟨a, cap, rfl, ho, hc, hn⟩ := hv.sl_inv
  by_cases h0 : ys = []
  · subst h0
    exact ⟨a, cap, [], rfl, ho, hc, .nil, (fun x h => by cases h), by simp, fun h => absurd rfl h⟩
  · obtain ⟨b, o, sz', vs, rfl, h1, h2, h3, h4⟩ := hn h0
    refine ⟨_, cap, vs, rfl, ho, hc, h3, h2, ?_, fun _ => ⟨b, o, rfl, h4⟩⟩
    rw [← h3.length]
    clear h3 h4 hn hv ho hc h1 h2
    induction ys with
    | nil => simp
    | cons y ys ih =>
      rw [List.flatMap_cons, List.length_append, hs y (List.mem_cons_self ..), List.length_cons, Nat.add_mul]
      by_cases h1 : ys = []
      · subst h1; simp
      · rw [ih (fun z hz => hs z (List.mem_cons_of_mem _ hz)) h1]; omega

theorem first_run {P : Program} {Γ : Gh} {ys : List AV} {vs : List Value} {a : Option Addr} {cap sz : Nat} (hl : vs.length = ys.length * sz) (ha : ys ≠ [] → ∃ b o, a = some ⟨b, o, none⟩ ∧ Γ.At b o vs) {w : World}
    (hi : ∀ b o v, Γ.I b o = some v → w.cell? ⟨b, o, none⟩ = some v) : (Builtin.firstCells sz ys.length (.slice a ys.length cap)).run P w = .ok vs.toArray w := by
  by_cases h0 : ys = []
  · subst h0
    have : vs = [] := List.eq_nil_of_length_eq_zero (by simpa using hl)
    subst this
    cases a with
    | none => simp [Builtin.firstCells]
    | some a => simp [Builtin.firstCells, loadCells, loadCellsFrom]
  · obtain ⟨b, o, rfl, h⟩ := ha h0
    exact run_firstCells_some (P := P) w sz ys.length ⟨b, o, none⟩ ys.length cap vs hl fun j u hu => by
      have hadd : (⟨b, o, none⟩ : Addr).add j = ⟨b, o + j, none⟩ := by unfold Addr.add; split <;> simp_all
      rw [hadd]
      exact hi _ _ _ (h j u hu)

theorem run_append_zero {P : Program} {t ty e : TypeId} {n : Nat} (w : World) (ht : P.underlying t = some (.slice e)) (hz : szOf P e = some n) (a1 a2 : Option Addr) (k cap c : Nat) (h : k ≤ cap) :
    (Builtin.append_ #[t, t] ty #[.slice a1 k cap, .slice a2 0 c]).run P w = .ok (.slice a1 k cap) w := by
  obtain ⟨i, hi, rfl⟩ := Option.map_eq_some_iff.1 hz
  have hf : (Builtin.firstCells i.size 0 (.slice a2 0 c)).run P w = .ok #[] w := by
    cases a2 with
    | none => simp [Builtin.firstCells]
    | some a => simp [Builtin.firstCells, loadCells, loadCellsFrom]
  cases a1 with
  | none => simp [Builtin.append_, run_underlying ht, sizeOf, typeInfo, hi, Builtin.lenOf, hf, h]
  | some a => simp [Builtin.append_, run_underlying ht, sizeOf, typeInfo, hi, Builtin.lenOf, hf, h, storeCells]

theorem run_append_up {P : Program} {t ty e : TypeId} {i : TypeInfo} {z : Value} (w : World) (ht : P.underlying t = some (.slice e)) (hi : P.info? e = some i) (hz : i.zero = some z) (a1 a2 : Option Addr) (n m cap c : Nat) (olds news : List Value)
    (hf1 : (Builtin.firstCells i.size n (.slice a1 n cap)).run P w.drew = .ok olds.toArray w.drew) (hf2 : (Builtin.firstCells i.size m (.slice a2 m c)).run P w.drew = .ok news.toArray w.drew) (hg : cap < n + m)
    (hb : (n + m) * i.bytes ≤ 140737488355328) (h63 : n + m ≤ maxLen) :
    (Builtin.append_ #[t, t] ty #[.slice a1 n cap, .slice a2 m c]).run P w = .ok (.slice (some ⟨w.heap.size, 0, none⟩) (n + m) (grownCap w (n + m) cap e))
      (w.drew.alloc (.cells (olds.toArray ++ news.toArray ++ Builtin.zeroCells z.cells (grownCap w (n + m) cap e - (n + m))) e)) := by
  have hn : ¬ (n + m ≤ cap) := by omega
  have h63' : ¬ (9223372036854775807 < ((n : Int) + (m : Int))) := by simp only [maxLen] at h63; omega
  have h48' : ¬ (281474976710656 < Builtin.nextslicecap (n + m) cap * i.bytes) := by have := growslice_fits hg hb; omega
  simp [Builtin.append_, run_underlying ht, sizeOf, typeInfo, zeroValue, hi, hz, Builtin.lenOf, hn, h63', h48', Question.forced, hf1, hf2, newRow, grownCap]
  congr 2
  apply Array.ext'
  simp

theorem run_append_in {P : Program} {t ty e e' : TypeId} {i : TypeInfo} (w : World) (ht : P.underlying t = some (.slice e)) (hi : P.info? e = some i) (g n m cap c : Nat) (a2 : Option Addr) (cur : Array Value) (hg : w.heap[g]? = some (.cells cur e' (0, 0))) (news : List Value)
    (hf2 : (Builtin.firstCells i.size m (.slice a2 m c)).run P w = .ok news.toArray w) (h1 : ∀ u ∈ news, u.oneCell' = true) (hroom : n + m ≤ cap) (hfit : n * i.size + news.length ≤ cur.size) :
    (Builtin.append_ #[t, t] ty #[.slice (some ⟨g, 0, none⟩) n cap, .slice a2 m c]).run P w =
      .ok (.slice (some ⟨g, 0, none⟩) (n + m) cap) (w.setRow g (cur.toList.take (n * i.size) ++ news ++ cur.toList.drop (n * i.size + news.length)).toArray) := by
  have hst := run_storeCells_at P g (n * i.size) e' news 0 cur w hg (by simpa using hfit) h1
  simp only [Nat.add_zero] at hst
  simp [Builtin.append_, run_underlying ht, sizeOf, typeInfo, hi, Builtin.lenOf, hroom, hf2, Addr.add_lit, hst]

def Gh.addT (Γ : Gh) (b : Nat) (vs : List Value) (i n cap : Nat) : Gh := { Γ.addI b vs with T := fun j m => if j = i ∧ m = n then some (b, cap) else Γ.T j m }

def appV0 (x y : AV) (H : List HO) : AV :=
  match x, y with
  | .sl .exact xs, .sl _ ys => if ys.length = 0 then .sl .exact xs else .sl (.tok H.length) (xs ++ ys)
  | .sl (.tok i) xs, .sl _ ys => .sl (.tok i) (xs ++ ys)
  | .sl .no xs, _ => .sl .no xs
  | _, _ => .any
def appH0 (P : Program) (t : TypeId) (x y : AV) (H : List HO) : List HO :=
  match x, y, slOf P t with
  | .sl .exact xs, .sl _ ys, some (_, sz) => if ys.length = 0 then H else H ++ [.spare (xs.length + ys.length) sz]
  | .sl (.tok i) xs, .sl _ ys, some (_, sz) => H.set i (.spare (xs.length + ys.length) sz)
  | _, _, _ => H
def appS0 (P : Program) (t t' : TypeId) (x y : AV) (H : List HO) : Prop :=
  match x, y, slOf P t with
  | .sl own xs, .sl _ ys, some (e, sz) => t' = t ∧ 0 < sz ∧ (∃ z by', zOf P e = some z ∧ z.cells.length = sz ∧ z.cells.all AV.one = true ∧ byOf P e = some by' ∧ (xs.length + ys.length) * by' ≤ 140737488355328) ∧ xs.length + ys.length ≤ maxLen ∧
      (∀ a, a ∈ xs → a.cells.length = sz) ∧ (∀ a, a ∈ ys → a.cells.length = sz) ∧ match own with
    | .exact => True
    | .nil => False
    | .tok i => H[i]? = some (.spare xs.length sz)
    | .no => ys.length = 0
  | _, _, _ => False

theorem set_same {α : Type} {l : List α} {i : Nat} {a : α} (h : l[i]? = some a) : l.set i a = l := by
  apply List.ext_getElem?
  intro j
  by_cases e : i = j
  · subst e
    have := (List.getElem?_eq_some_iff.1 h).1
    rw [List.getElem?_set_self this, h]
  · rw [List.getElem?_set_ne e]

theorem take_of {cur : Array Value} {olds : List Value} {k : Nat} (hl : olds.length = k) (hc : k ≤ cur.size) (h : ∀ (j : Nat) (v : Value), olds[j]? = some v → cur[j]? = some v) : cur.toList.take k = olds := by
  apply List.ext_getElem?
  intro j
  rw [List.getElem?_take]
  by_cases hj : j < k
  · rw [if_pos hj]
    have : olds[j]? = some olds[j] := List.getElem?_eq_getElem (by omega)
    rw [this]
    simpa using h j _ this
  · rw [if_neg hj]
    exact (List.getElem?_eq_none (by omega)).symm

/-- A new row, with room behind it. -/
theorem row_new {P : Program} {Γ : Gh} {H : List HO} {w0 : Bs} {w : World} (hr : R w0 Γ H w) {z : Value} {e : TypeId} {n m k sz cap : Nat} {olds news : List Value} (hl : (olds ++ news).length = (n + m) * sz) (hz : z.cells.size = sz)
    (hc : n + m ≤ cap) (hm : cap ≤ maxLen) (hTf : ∀ q, n + m < q → Γ.T k q = none) :
    let w' := w.drew.alloc (.cells (olds.toArray ++ news.toArray ++ Builtin.zeroCells z.cells (cap - (n + m))) e)
    let Δ := Γ.addT w.heap.size (olds ++ news) k (n + m) cap
    (HO.spare (n + m) sz).at Δ w' k w.heap.size ∧ (∀ c o v, Δ.I c o = some v → Γ.I c o = some v ∨ (w.heap.size ≤ c ∧ w'.cell? ⟨c, o, none⟩ = some v)) := by
  intro w' Δ
  have hh : w'.heap[w.heap.size]? = some (.cells (olds.toArray ++ news.toArray ++ Builtin.zeroCells z.cells (cap - (n + m))) e) := heap_alloc_new w.drew _
  refine ⟨⟨⟨cap, _, e, by simp [Δ, Gh.addT], hh, ?_, hm, hc⟩, fun o ho => ?_, fun q hq => ?_⟩, fun c o v h => ?_⟩
  · simp only [Array.size_append, List.size_toArray, Builtin.zeroCells, Array.size_map, Array.size_range, hz]
    rw [← List.length_append, hl, ← Nat.add_mul]
    congr 1
    omega
  · simp only [Δ, Gh.addT, Gh.addI, if_pos]
    exact List.getElem?_eq_none (by omega)
  · simp only [Δ, Gh.addT]
    rw [if_neg (by omega)]
    exact hTf q hq
  · by_cases ec : c = w.heap.size
    · subst ec
      simp only [Δ, Gh.addT, Gh.addI, if_pos] at h
      refine .inr ⟨Nat.le_refl _, ?_⟩
      rw [cell_of_row w' _ o _ e (0, 0) hh]
      rw [Array.getElem?_append_left (by have := (List.getElem?_eq_some_iff.1 h).1; simpa using this)]
      simpa using h
    · simp only [Δ, Gh.addT, Gh.addI, if_neg ec] at h
      exact .inl h

theorem app_run0 {P : Program} {w0 : Bs} {Γ : Gh} {H : List HO} {w : World} {t t' ty : TypeId} {x y : AV} {vx vy : Value} (hr : R w0 Γ H w) (hs : appS0 P t t' x y H) (hx : VR Γ x vx) (hy : VR Γ y vy) :
    ∃ Γ' v w', (Builtin.append_ #[t, t'] ty #[vx, vy]).run P w = .ok v w' ∧ Gh.Le Γ Γ' ∧ VR Γ' (appV0 x y H) v ∧ R w0 Γ' (appH0 P t x y H) w' := by
  unfold appS0 at hs
  split at hs
  · rename_i own xs own' ys e sz hsl
    obtain ⟨rfl, hpos, ⟨z, by', hz, hzl, hz1, hby, hbytes⟩, h63, hxs, hys, ho⟩ := hs
    obtain ⟨hu, hszo⟩ := slOf_some hsl
    obtain ⟨a1, cap, olds, rfl, f1, hc1, hv1, ho1, hl1, hA1⟩ := sl_first hx hxs
    obtain ⟨a2, cap2, news, rfl, f2, hc2, hv2, ho2, hl2, hA2⟩ := sl_first hy hys
    obtain ⟨i, hi, hisz⟩ := Option.map_eq_some_iff.1 hszo
    obtain ⟨i2, hi2, hiby⟩ := Option.map_eq_some_iff.1 hby
    rw [hi] at hi2; cases hi2
    by_cases h0 : ys.length = 0
    · have : ys = [] := List.eq_nil_of_length_eq_zero h0
      subst this
      refine ⟨Γ, .slice a1 xs.length cap, w, run_append_zero w hu hszo a1 a2 _ _ _ hc1, Gh.Le.refl Γ, ?_, ?_⟩
      · cases own <;> first | exact ho.elim | (simp only [appV0, List.length_nil, if_true, List.append_nil]; exact hx)
      · cases own with
        | nil => exact ho.elim
        | exact => simpa [appH0, hsl] using hr
        | no => simpa [appH0] using hr
        | tok k =>
          simp only [appH0, hsl, List.length_nil, Nat.add_zero]
          rw [set_same ho]
          exact hr
    · have hne : ys ≠ [] := fun e => h0 (by rw [e]; rfl)
      have hyl : 0 < ys.length := Nat.pos_of_ne_zero h0
      have hzi : ∃ zv, i.zero = some zv ∧ zv.cells.size = sz := by
        unfold zOf at hz
        obtain ⟨zv, h1, h2⟩ := Option.map_eq_some_iff.1 hz
        rw [hi] at h1
        refine ⟨zv, by simpa using h1, ?_⟩
        have hv : VR Γ z zv := h2 ▸ VR.ofVal Γ zv
        have := (zcells (P := P) (t := e) hz hz1 Γ hv).length
        rw [hzl, Array.length_toList] at this
        exact this.symm
      obtain ⟨zv, hzv, hzs⟩ := hzi
      subst hisz
      have hlen : (olds ++ news).length = (xs.length + ys.length) * i.size := by rw [List.length_append, hl1, hl2, Nat.add_mul]
      have hvs : ∀ {Δ : Gh}, Gh.Le Γ Δ → VRs Δ ((xs ++ ys).flatMap AV.cells) (olds ++ news) := fun le => by rw [List.flatMap_append]; exact (hv1.append hv2).mono le
      have hones : AV.ones ((xs ++ ys).flatMap AV.cells) := by
        rw [List.flatMap_append]
        intro q hq
        rcases List.mem_append.1 hq with h | h
        · exact ho1 q h
        · exact ho2 q h
      have hsz : ∀ q, q ∈ xs ++ ys → q.cells.length = i.size := by
        intro q hq
        rcases List.mem_append.1 hq with h | h
        · exact hxs q h
        · exact hys q h
      subst hiby
      have himm : ∀ b o v, Γ.I b o = some v → w.drew.cell? ⟨b, o, none⟩ = some v := fun b o v h => hr.imm b o v h
      have fst2 := first_run (P := P) (cap := cap2) hl2 hA2 himm
      have fst1 := first_run (P := P) (cap := cap) hl1 hA1 himm
      have fst2' := first_run (P := P) (cap := cap2) hl2 hA2 hr.imm
      have up : cap < xs.length + ys.length → ∀ k, (∀ q, xs.length + ys.length < q → Γ.T k q = none) → (∀ q p, Γ.T k q = some p → k < H.length) → Γ.T k (xs.length + ys.length) = none ∨ True →
          ∃ cap' w', (Builtin.append_ #[t', t'] ty #[.slice a1 xs.length cap, .slice a2 ys.length cap2]).run P w = .ok (.slice (some ⟨w.heap.size, 0, none⟩) (xs.length + ys.length) cap') w' ∧
            w' = w.drew.alloc (.cells (olds.toArray ++ news.toArray ++ Builtin.zeroCells zv.cells (cap' - (xs.length + ys.length))) e) ∧ xs.length + ys.length ≤ cap' ∧ cap' ≤ maxLen := fun hg k _ _ _ =>
        ⟨_, _, run_append_up w hu hi hzv a1 a2 _ _ _ _ olds news fst1 fst2 hg hbytes h63, rfl, grownCap_ge _ _ _ _, grownCap_le_maxLen _ _ _ _ h63⟩
      cases own with
      | nil => exact ho.elim
      | no => exact absurd ho h0
      | exact =>
        have f1' : cap = xs.length := f1
        obtain ⟨cap', w', hrun, rfl, hc', hm'⟩ := up (by omega) H.length (fun q _ => (hr.fresh _ (Nat.le_refl _)).2 q) (fun q p h => by rw [(hr.fresh _ (Nat.le_refl _)).2 q] at h; cases h) (.inr trivial)
        have hrow := row_new (P := P) (e := e) hr hlen hzs hc' hm' (k := H.length) (fun q _ => (hr.fresh _ (Nat.le_refl _)).2 q)
        have le : Gh.Le Γ (Γ.addT w.heap.size (olds ++ news) H.length (xs.length + ys.length) cap') :=
          ⟨(hr.le_addI _).I, fun _ _ h => h, fun j q p h => by
            simp only [Gh.addT]
            by_cases ej : j = H.length
            · subst ej; rw [(hr.fresh _ (Nat.le_refl _)).2 q] at h; cases h
            · rw [if_neg (fun x => ej x.1)]; exact h⟩
        refine ⟨_, _, _, hrun, le, ?_, ?_⟩
        · simp only [appV0, if_neg h0]
          refine .sl (by simp) hsz hones (hvs le) ?_ ⟨w.heap.size, rfl, by simp [Gh.addT]⟩ hc'
          intro j v hv
          simp only [Gh.addT, Gh.addI, Nat.zero_add, if_pos]; exact hv
        · simp only [appH0, hsl, if_neg h0]
          exact hr.push _ w.heap.size ((Below.refl _ _).drew.alloc (Nat.le_refl _) _) le (Nat.le_refl _) (fun _ => hrow.1) hrow.2 (fun _ _ => rfl) (fun j hj => by funext q; simp [Gh.addT, hj]) rfl
      | tok k =>
        obtain ⟨b, hw0, hbl, ⟨⟨cap1, cur, e', hT1, hcur, hcs, hcm, hnc⟩, hIn, hTn⟩, hput⟩ := hr.put ho rfl
        obtain ⟨b1, rfl, hT2⟩ := f1
        rw [hT1] at hT2
        simp only [Option.some.injEq, Prod.mk.injEq] at hT2
        obtain ⟨rfl, rfl⟩ := hT2
        have hk : k < H.length := (List.getElem?_eq_some_iff.1 ho).1
        have hTq : ∀ q, xs.length + ys.length < q → Γ.T k q = none := fun q hq => hTn q (by omega)
        by_cases hroom : xs.length + ys.length ≤ cap1
        · have hfit : xs.length * i.size + news.length ≤ cur.size := by rw [hl2, hcs, ← Nat.add_mul]; exact Nat.mul_le_mul_right _ hroom
          have hone : ∀ u ∈ news, u.oneCell' = true := fun u hu => hv2.one ho2 u hu
          have hrun := run_append_in (P := P) (ty := ty) w hu hi b xs.length ys.length cap1 cap2 a2 cur hcur news fst2' hone hroom hfit
          have htake : cur.toList.take (xs.length * i.size) = olds := by
            refine take_of hl1 (by rw [hcs]; exact Nat.mul_le_mul_right _ hnc) fun j v hv => ?_
            have hx0 : xs ≠ [] := by
              rintro rfl
              have : olds = [] := List.eq_nil_of_length_eq_zero (by simpa using hl1)
              subst this; simp at hv
            obtain ⟨b2, o2, e2, hA⟩ := hA1 hx0
            cases e2
            have := hr.imm _ _ _ (hA j v hv)
            rw [cell_of_row w _ _ cur e' (0, 0) hcur] at this
            simpa using this
          have hIb : ∀ o v, Γ.I b o = some v → (olds ++ news)[o]? = some v := by
            intro o v h
            have hlt : o < xs.length * i.size := by
              rcases Nat.lt_or_ge o (xs.length * i.size) with h' | h'
              · exact h'
              · rw [hIn o h'] at h; cases h
            have h2 := hr.imm _ _ _ h
            rw [cell_of_row w _ _ cur e' (0, 0) hcur] at h2
            rw [List.getElem?_append_left (by omega), ← htake, List.getElem?_take, if_pos hlt]
            simpa using h2
          have le : Gh.Le Γ (Γ.addT b (olds ++ news) k (xs.length + ys.length) cap1) :=
            ⟨fun c o v h => by
              simp only [Gh.addT, Gh.addI]
              by_cases ec : c = b
              · subst ec; rw [if_pos rfl]; exact hIb o v h
              · rw [if_neg ec]; exact h, fun _ _ h => h, fun j q p h => by
              simp only [Gh.addT]
              by_cases ej : j = k ∧ q = xs.length + ys.length
              · obtain ⟨rfl, rfl⟩ := ej
                rw [hTn _ (by omega)] at h; cases h
              · rw [if_neg ej]; exact h⟩
          have hh := setRow_heap w b cur (cur.toList.take (xs.length * i.size) ++ news ++ cur.toList.drop (xs.length * i.size + news.length)).toArray e' (0, 0) hcur
          refine ⟨_, _, _, hrun, le, ?_, ?_⟩
          · simp only [appV0]
            refine .sl (by simp) hsz hones (hvs le) ?_ ⟨b, rfl, by simp [Gh.addT]⟩ hroom
            intro j v hv
            simp only [Gh.addT, Gh.addI, Nat.zero_add, if_pos]; exact hv
          · simp only [appH0, hsl]
            refine hput _ b _ _ (grownBy_setRow w b _) le (.inl rfl) (fun _ => ⟨⟨cap1, _, e', by simp [Gh.addT], hh, ?_, hcm, hroom⟩, fun o ho' => ?_, fun q hq => ?_⟩) ?_ (fun _ => rfl) (fun j hj => by funext q; simp [Gh.addT, hj]) rfl
            · simp only [List.size_toArray, List.length_append, List.length_take, List.length_drop, Array.length_toList]
              omega
            · simp only [Gh.addT, Gh.addI, if_pos]
              exact List.getElem?_eq_none (by omega)
            · simp only [Gh.addT]
              rw [if_neg (by omega)]
              exact hTq q hq
            · intro c o v h
              simp only [Gh.addT, Gh.addI] at h
              by_cases ec : c = b
              · subst ec
                rw [if_pos rfl] at h
                refine .inr ⟨.inl rfl, ?_⟩
                rw [cell_of_row _ _ o _ e' (0, 0) hh]
                have hlt := (List.getElem?_eq_some_iff.1 h).1
                rw [List.getElem?_toArray, List.getElem?_append_left (by rw [htake]; exact hlt), htake]
                exact h
              · rw [if_neg ec] at h
                exact .inl ⟨h, ec⟩
        · obtain ⟨cap', w', hrun, rfl, hc', hm'⟩ := up (by omega) k hTq (fun _ _ _ => hk) (.inr trivial)
          have hrow := row_new (P := P) (e := e) hr hlen hzs hc' hm' (k := k) hTq
          have le : Gh.Le Γ (Γ.addT w.heap.size (olds ++ news) k (xs.length + ys.length) cap') :=
            ⟨(hr.le_addI _).I, fun _ _ h => h, fun j q p h => by
              simp only [Gh.addT]
              by_cases ej : j = k ∧ q = xs.length + ys.length
              · obtain ⟨rfl, rfl⟩ := ej
                rw [hTn _ (by omega)] at h; cases h
              · rw [if_neg ej]; exact h⟩
          refine ⟨_, _, _, hrun, le, ?_, ?_⟩
          · simp only [appV0]
            refine .sl (by simp) hsz hones (hvs le) ?_ ⟨w.heap.size, rfl, by simp [Gh.addT]⟩ hc'
            intro j v hv
            simp only [Gh.addT, Gh.addI, Nat.zero_add, if_pos]; exact hv
          · simp only [appH0, hsl]
            refine hput _ w.heap.size _ _ ⟨rfl, rfl, rfl, by simp, fun c hc _ => heap_old w.drew _ hc⟩ le (.inr (Nat.le_refl _)) (fun _ => hrow.1) ?_ (fun _ => rfl) (fun j hj => by funext q; simp [Gh.addT, hj]) rfl
            intro c o v h
            by_cases ec : c = b
            · subst ec
              have h' : Γ.I c o = some v := by
                simp only [Gh.addT, Gh.addI] at h
                rwa [if_neg (by omega)] at h
              refine .inr ⟨.inl rfl, ?_⟩
              have := hr.imm _ _ _ h'
              rw [World.cell?_of_block (w := w) (heap_old w.drew _ hbl)]
              exact this
            · rcases hrow.2 c o v h with h' | ⟨h', h2⟩
              · exact .inl ⟨h', ec⟩
              · exact .inr ⟨.inr h', h2⟩
  · exact hs.elim

/-! ### rows that grow, and may be written -/
def srcN (y : AV) : Nat := match y with | .sl _ ys => ys.length | .mv _ _ _ _ len => len | _ => 0
def srcC (y : AV) (H : List HO) : List AV :=
  match y with
  | .sl _ ys => ys.flatMap AV.cells
  | .mv id _ sz off len => match H[id]? with | some (.row _ _ cs) => (cs.drop (off * sz)).take (len * sz) | _ => []
  | _ => []
def srcS (y : AV) (H : List HO) (sz : Nat) : Prop :=
  match y with
  | .sl _ ys => ∀ a, a ∈ ys → a.cells.length = sz
  | .mv id n sz' _ _ => match H[id]? with | some (.row n' sz'' _) => n' = n ∧ sz' = sz ∧ sz'' = sz | _ => False
  | _ => False

theorem first_k {P : Program} {w : World} {a : Option Addr} {vs : List Value} {n sz cap k : Nat} (hk : k ≤ n) (hl : vs.length = n * sz) (h : n ≠ 0 → ∃ b o, a = some ⟨b, o, none⟩ ∧ ∀ (j : Nat) u, vs[j]? = some u → w.cell? ⟨b, o + j, none⟩ = some u) :
    (Builtin.firstCells sz k (.slice a n cap)).run P w = .ok (vs.take (k * sz)).toArray w := by
  by_cases h0 : k = 0
  · subst h0
    cases a with
    | none => simp [Builtin.firstCells]
    | some a => simp [Builtin.firstCells, loadCells, loadCellsFrom]
  · obtain ⟨b, o, rfl, hc⟩ := h (by omega)
    have hks : k * sz ≤ n * sz := Nat.mul_le_mul_right _ hk
    refine run_firstCells_some (P := P) w sz k ⟨b, o, none⟩ n cap _ (by rw [List.length_take]; omega) fun j u hu => ?_
    rw [addr_add]
    rw [List.getElem?_take] at hu
    split at hu
    · exact hc j u hu
    · cases hu

theorem src_run {P : Program} {w0 : Bs} {Γ : Gh} {H : List HO} {w : World} {y : AV} {v : Value} {sz : Nat} (hr : R w0 Γ H w) (hs : srcS y H sz) (hy : VR Γ y v) :
    ∃ a cap vs, v = .slice a (srcN y) cap ∧ srcN y ≤ cap ∧ VRs Γ (srcC y H) vs ∧ AV.ones (srcC y H) ∧ vs.length = srcN y * sz ∧
      (srcN y ≠ 0 → ∃ b o, a = some ⟨b, o, none⟩ ∧ ∀ (j : Nat) u, vs[j]? = some u → w.cell? ⟨b, o + j, none⟩ = some u) := by
  unfold srcS at hs
  split at hs
  · rename_i own ys
    obtain ⟨a, cap, vs, rfl, f, hc, hv, ho, hl, hA⟩ := sl_first hy hs
    refine ⟨a, cap, vs, rfl, hc, hv, ho, hl, fun h0 => ?_⟩
    obtain ⟨b, o, rfl, h⟩ := hA (fun e => h0 (by rw [e]; rfl))
    exact ⟨b, o, rfl, fun j u hu => hr.imm _ _ _ (h j u hu)⟩
  · rename_i id n sz' off len
    split at hs
    · rename_i n' sz'' cs hi
      obtain ⟨rfl, rfl, rfl⟩ := hs
      cases hy with
      | @mv _ _ _ _ _ b cap o hT hle hnc ho =>
        obtain ⟨cur, e, hw, hsz, _, hv, h1⟩ := hr.row hi hT
        have hlen := hv.length
        have hcl : n' * sz'' ≤ cur.toList.length := by rw [Array.length_toList, hsz]; exact Nat.mul_le_mul_right _ hnc
        rw [List.length_take, Nat.min_eq_left hcl] at hlen
        have hle2 : off * sz'' + len * sz'' ≤ n' * sz'' := by rw [← Nat.add_mul]; exact Nat.mul_le_mul_right _ hle
        refine ⟨some ⟨b, o, none⟩, cap - off, ((cur.toList.take (n' * sz'')).drop (off * sz'')).take (len * sz''), rfl, by show len ≤ _; omega, ?_, ?_, ?_, ?_⟩
        · simp only [srcC, hi]
          exact (hv.drop _).take _
        · simp only [srcC, hi]
          exact fun x hx => h1 x (List.mem_of_mem_drop (List.mem_of_mem_take hx))
        · simp only [srcN, List.length_take, List.length_drop]
          rw [Array.length_toList] at hcl ⊢
          omega
        · intro h0
          have hlp : 0 < len := Nat.pos_of_ne_zero h0
          have ho := ho (by omega)
          subst ho
          refine ⟨b, _, rfl, fun j u hu => ?_⟩
          rw [cell_in hw]
          rw [List.getElem?_take] at hu
          split at hu
          · rw [List.getElem?_drop, List.getElem?_take] at hu
            split at hu
            · simpa using hu
            · cases hu
          · cases hu
    · exact hs.elim
  · exact hs.elim

def Gh.addV (Γ : Gh) (i n : Nat) (p : Nat × Nat) : Gh := { Γ with T := fun j m => if j = i ∧ m = n then some p else Γ.T j m }
theorem Gh.le_addV {Γ : Gh} {i n : Nat} {p : Nat × Nat} (h : Γ.T i n = none) : Gh.Le Γ (Γ.addV i n p) :=
  ⟨fun _ _ _ h => h, fun _ _ h => h, fun j m q hq => by
    simp only [Gh.addV]
    by_cases e : j = i ∧ m = n
    · obtain ⟨rfl, rfl⟩ := e; rw [h] at hq; cases hq
    · rw [if_neg e]; exact hq⟩

structure RowT (P : Program) (t e sz : Nat) (n m : Nat) : Prop where
  sl : slOf P t = some (e, sz)
  pos : 0 < sz
  fits : ∃ z by', zOf P e = some z ∧ z.cells.length = sz ∧ z.cells.all AV.one = true ∧ byOf P e = some by' ∧ (n + m) * by' ≤ 140737488355328
  max : n + m ≤ maxLen

theorem RowT.zero {P : Program} {t e sz n m : Nat} (h : RowT P t e sz n m) : P.underlying t = some (.slice e) ∧ ∃ i zv, P.info? e = some i ∧ i.size = sz ∧ i.zero = some zv ∧ zv.cells.size = sz ∧ (n + m) * i.bytes ≤ 140737488355328 := by
  obtain ⟨h1, h2, ⟨z, by', hz, hzl, hz1, hby, hb⟩, h4⟩ := h
  obtain ⟨hu, hszo⟩ := slOf_some h1
  obtain ⟨i, hi, hisz⟩ := Option.map_eq_some_iff.1 hszo
  obtain ⟨i2, hi2, hiby⟩ := Option.map_eq_some_iff.1 hby
  rw [hi] at hi2; cases hi2
  refine ⟨hu, i, ?_⟩
  have hz' := hz
  unfold zOf at hz
  obtain ⟨zv, k1, k2⟩ := Option.map_eq_some_iff.1 hz
  rw [hi] at k1
  refine ⟨zv, hi, hisz, by simpa using k1, ?_, by rw [hiby]; exact hb⟩
  have hv : VR (PI fun _ _ => none) z zv := k2 ▸ VR.ofVal _ zv
  have := (zcells (P := P) (t := e) hz' hz1 _ hv).length
  rw [hzl, Array.length_toList] at this
  exact this.symm

theorem row_at_new {Γ : Gh} {w' : World} {k n sz cap b : Nat} {cs : List AV} {vs : List Value} {cur : Array Value} {e : TypeId} (hI : ∀ o, Γ.I b o = none) (hTf : ∀ q, n < q → Γ.T k q = none) (hT : Γ.T k n = none)
    (hh : w'.heap[b]? = some (.cells cur e (0, 0))) (hsz : cur.size = cap * sz) (hm : cap ≤ maxLen) (hc : n ≤ cap) (htk : cur.toList.take (n * sz) = vs) (hv : VRs Γ cs vs) (h1 : AV.ones cs) : (HO.row n sz cs).at (Γ.addV k n (b, cap)) w' k b := by
  refine ⟨⟨cap, cur, e, by simp [Gh.addV], hh, hsz, hm, hc, ?_⟩, h1, hI, fun m hm' => ?_⟩
  · rw [htk]; exact hv.mono (Gh.le_addV hT)
  · simp only [Gh.addV]
    rw [if_neg (by omega)]
    exact hTf m hm'

/-- A row grows. -/
theorem rapp_run {P : Program} {w0 : Bs} {Γ : Gh} {H : List HO} {w : World} {t ty e sz id n : Nat} {cs : List AV} {y : AV} {vx vy : Value} (hr : R w0 Γ H w) (hty : RowT P t e sz n (srcN y)) (ho : H[id]? = some (.row n sz cs)) (hx : VR Γ (.mv id n sz 0 n) vx)
    (hy : VR Γ y vy) (hs : srcS y H sz) :
    ∃ Γ' v w', (Builtin.append_ #[t, t] ty #[vx, vy]).run P w = .ok v w' ∧ Gh.Le Γ Γ' ∧ VR Γ' (.mv id (n + srcN y) sz 0 (n + srcN y)) v ∧ R w0 Γ' (H.set id (.row (n + srcN y) sz (cs ++ srcC y H))) w' := by
  obtain ⟨hu, i, zv, hi, rfl, hzv, hzs, hby⟩ := hty.zero
  obtain ⟨a2, cap2, news, rfl, hc2, hv2, ho2, hl2, hA2⟩ := src_run (P := P) hr hs hy
  have hf2 : ∀ w' : World, w'.heap = w.heap → (Builtin.firstCells i.size (srcN y) (.slice a2 (srcN y) cap2)).run P w' = .ok news.toArray w' := fun w' hw' => by
    have := first_k (P := P) (w := w') (cap := cap2) (Nat.le_refl _) hl2 (fun h0 => by
      obtain ⟨b, o, e1, e2⟩ := hA2 h0
      refine ⟨b, o, e1, fun j u hu => ?_⟩
      have := e2 j u hu
      unfold World.cell? at this ⊢
      rw [hw']; exact this)
    rwa [List.take_of_length_le (by omega)] at this
  obtain ⟨b, hw0, hbl, ⟨⟨cap, cur, e', hT1, hcur, hcs, hcm, hnc, hv1⟩, ho1, hIn, hTn⟩, hput⟩ := hr.put ho rfl
  cases hx with
  | @mv _ _ _ _ _ b1 cap1 o hT2 hle _ hoo =>
  rw [hT1] at hT2
  simp only [Option.some.injEq, Prod.mk.injEq] at hT2
  obtain ⟨rfl, rfl⟩ := hT2
  have hlen1 := hv1.length
  have hcl : n * i.size ≤ cur.toList.length := by rw [Array.length_toList, hcs]; exact Nat.mul_le_mul_right _ hnc
  rw [List.length_take, Nat.min_eq_left hcl] at hlen1
  generalize hm : srcN y = m at *
  simp only [Nat.sub_zero]
  by_cases h0 : m = 0
  · subst h0
    have hn : news = [] := List.eq_nil_of_length_eq_zero (by simpa using hl2)
    subst hn
    have hc0 : srcC y H = [] := List.eq_nil_of_length_eq_zero (by rw [hv2.length]; rfl)
    obtain ⟨_, hszo⟩ := slOf_some hty.sl
    refine ⟨Γ, .slice (some ⟨b, o, none⟩) n cap, w, run_append_zero w hu hszo _ a2 _ _ _ hnc, Gh.Le.refl Γ, ?_, ?_⟩
    · exact .mv hT1 (by omega) (by omega) hoo
    · rw [hc0, List.append_nil, Nat.add_zero, set_same ho]
      exact hr
  · have hTm : Γ.T id (n + m) = none := hTn _ (by omega)
    have hTq : ∀ q, n + m < q → Γ.T id q = none := fun q hq => hTn q (by omega)
    have hone : ∀ u ∈ news, u.oneCell' = true := fun u hu => hv2.one ho2 u hu
    have hones : AV.ones (cs ++ srcC y H) := fun x hx => by
      rcases List.mem_append.1 hx with h | h
      · exact ho1 x h
      · exact ho2 x h
    have hvs : VRs Γ (cs ++ srcC y H) (cur.toList.take (n * i.size) ++ news) := hv1.append hv2
    have hB : ∀ j, (Γ.addV id (n + m) (b, cap)).B j = Γ.B j := fun _ => rfl
    by_cases hroom : n + m ≤ cap
    · have hfit : n * i.size + news.length ≤ cur.size := by rw [hl2, hcs, ← Nat.add_mul]; exact Nat.mul_le_mul_right _ hroom
      have hoo := hoo (by omega)
      rw [Nat.zero_mul] at hoo
      subst hoo
      have hrun := run_append_in (P := P) (ty := ty) w hu hi b n m cap cap2 a2 cur hcur news (hf2 w rfl) hone hroom hfit
      have hh := setRow_heap w b cur (cur.toList.take (n * i.size) ++ news ++ cur.toList.drop (n * i.size + news.length)).toArray e' (0, 0) hcur
      refine ⟨_, _, _, hrun, Gh.le_addV (p := (b, cap)) hTm, ?_, ?_⟩
      · exact .mv (by simp [Gh.addV]) (by omega) (by omega) (fun _ => by rw [Nat.zero_mul])
      · refine hput _ b _ _ (grownBy_setRow w b _) (Gh.le_addV hTm) (.inl rfl) (fun _ => row_at_new hIn hTq hTm hh ?_ hcm hroom (vs := cur.toList.take (n * i.size) ++ news) ?_ hvs hones) ?_ (fun _ => rfl) (fun j hj => by funext q; simp [Gh.addV, hj]) rfl
        · simp only [List.size_toArray, List.length_append, List.length_take, List.length_drop]
          rw [← hcs]
          rw [Array.length_toList] at hcl ⊢
          omega
        · simp only []
          rw [List.take_append, List.take_of_length_le (by simp only [List.length_append, List.length_take]; rw [hl2, Nat.add_mul]; omega)]
          rw [show (n + m) * i.size - (cur.toList.take (n * i.size) ++ news).length = 0 by simp only [List.length_append, List.length_take]; rw [hl2, Nat.add_mul]; omega]
          simp
        · intro c o v h
          refine .inl ⟨h, ?_⟩
          rintro rfl
          have h' : Γ.I _ o = some v := h
          rw [hIn] at h'; cases h'
    · have hf1 : (Builtin.firstCells i.size n (.slice (some ⟨b, o, none⟩) n cap)).run P w.drew = .ok (cur.toList.take (n * i.size)).toArray w.drew := by
        by_cases hn0 : n = 0
        · subst hn0
          refine run_firstCells_some (P := P) w.drew i.size 0 ⟨b, o, none⟩ 0 cap _ (by simp) fun j u hu => by simp at hu
        · have hoo := hoo (by omega)
          rw [Nat.zero_mul] at hoo
          subst hoo
          refine run_firstCells_some (P := P) w.drew i.size n ⟨b, 0, none⟩ n cap _ (by rw [List.length_take, Nat.min_eq_left hcl]) fun j u hu => ?_
          rw [addr_add, Nat.zero_add, cell_in (w := w.drew) hcur]
          rw [List.getElem?_take] at hu
          split at hu
          · simpa using hu
          · cases hu
      have hrun := run_append_up (P := P) (ty := ty) w hu hi hzv (some ⟨b, o, none⟩) a2 n m cap cap2 (cur.toList.take (n * i.size)) news hf1 (hf2 w.drew rfl) (by omega) hby hty.max
      have hge := grownCap_ge w (n + m) cap e
      have hmx := grownCap_le_maxLen w (n + m) cap e hty.max
      generalize grownCap w (n + m) cap e = cap' at *
      have hh : (w.drew.alloc (.cells ((cur.toList.take (n * i.size)).toArray ++ news.toArray ++ Builtin.zeroCells zv.cells (cap' - (n + m))) e)).heap[w.heap.size]? = some (.cells ((cur.toList.take (n * i.size)).toArray ++ news.toArray ++ Builtin.zeroCells zv.cells (cap' - (n + m))) e (0, 0)) := heap_alloc_new w.drew _
      refine ⟨_, _, _, hrun, Gh.le_addV (p := (w.heap.size, cap')) hTm, ?_, ?_⟩
      · exact .mv (cap := cap') (by simp [Gh.addV]) (by omega) (by omega) (fun _ => by rw [Nat.zero_mul])
      · refine hput _ w.heap.size _ _ ⟨rfl, rfl, rfl, by simp, fun c hc _ => heap_old w.drew _ hc⟩ (Gh.le_addV hTm) (.inr (Nat.le_refl _)) (fun _ => row_at_new (fun o => hr.noI o) hTq hTm hh ?_ hmx hge (vs := cur.toList.take (n * i.size) ++ news) ?_ hvs hones) ?_ (fun _ => rfl) (fun j hj => by funext q; simp [Gh.addV, hj]) rfl
        · simp only [Array.size_append, List.size_toArray, Builtin.zeroCells, Array.size_map, Array.size_range, hzs, List.length_take, Nat.min_eq_left hcl, hl2]
          rw [← Nat.add_mul, ← Nat.add_mul]
          congr 1
          omega
        · simp only [Array.toList_append]
          rw [List.take_append, List.take_of_length_le (by simp only [List.length_append, List.length_take]; rw [hl2, Nat.add_mul]; omega)]
          rw [show (n + m) * i.size - (cur.toList.take (n * i.size) ++ news).length = 0 by simp only [List.length_append, List.length_take]; rw [hl2, Nat.add_mul]; omega]
          simp
        · intro c o v h
          refine .inl ⟨h, ?_⟩
          rintro rfl
          have h' : Γ.I _ o = some v := h
          rw [hIn] at h'; cases h'

/-- A row out of a slice that has no room. -/
theorem rnew_run {P : Program} {w0 : Bs} {Γ : Gh} {H : List HO} {w : World} {t ty e sz : Nat} {xs : List AV} {y : AV} {vx vy : Value} (hr : R w0 Γ H w) (hty : RowT P t e sz xs.length (srcN y)) (hxs : ∀ a, a ∈ xs → a.cells.length = sz) (hx : VR Γ (.sl .exact xs) vx)
    (hy : VR Γ y vy) (hs : srcS y H sz) (h0 : srcN y ≠ 0) :
    ∃ Γ' v w', (Builtin.append_ #[t, t] ty #[vx, vy]).run P w = .ok v w' ∧ Gh.Le Γ Γ' ∧ VR Γ' (.mv H.length (xs.length + srcN y) sz 0 (xs.length + srcN y)) v ∧ R w0 Γ' (H ++ [.row (xs.length + srcN y) sz (xs.flatMap AV.cells ++ srcC y H)]) w' := by
  obtain ⟨hu, i, zv, hi, rfl, hzv, hzs, hby⟩ := hty.zero
  obtain ⟨a2, cap2, news, rfl, hc2, hv2, ho2, hl2, hA2⟩ := src_run (P := P) hr hs hy
  have hf2 : ∀ w' : World, w'.heap = w.heap → (Builtin.firstCells i.size (srcN y) (.slice a2 (srcN y) cap2)).run P w' = .ok news.toArray w' := fun w' hw' => by
    have := first_k (P := P) (w := w') (cap := cap2) (Nat.le_refl _) hl2 (fun h0 => by
      obtain ⟨b, o, e1, e2⟩ := hA2 h0
      refine ⟨b, o, e1, fun j u hu => ?_⟩
      have := e2 j u hu
      unfold World.cell? at this ⊢
      rw [hw']; exact this)
    rwa [List.take_of_length_le (by omega)] at this
  obtain ⟨a1, cap, olds, rfl, f1, hc1, hv1, ho1, hl1, hA1⟩ := sl_first hx hxs
  have f1 : cap = xs.length := f1
  generalize hm : srcN y = m at *
  have hTf : ∀ q, Γ.T H.length q = none := (hr.fresh _ (Nat.le_refl _)).2
  have fst1 := first_run (P := P) (cap := cap) (w := w.drew) hl1 hA1 (fun b o v h => hr.imm b o v h)
  have hrun := run_append_up (P := P) (ty := ty) w hu hi hzv a1 a2 xs.length m cap cap2 olds news fst1 (hf2 w.drew rfl) (by omega) hby hty.max
  have hge := grownCap_ge w (xs.length + m) cap e
  have hmx := grownCap_le_maxLen w (xs.length + m) cap e hty.max
  generalize grownCap w (xs.length + m) cap e = cap' at *
  have hh : (w.drew.alloc (.cells (olds.toArray ++ news.toArray ++ Builtin.zeroCells zv.cells (cap' - (xs.length + m))) e)).heap[w.heap.size]? = some (.cells (olds.toArray ++ news.toArray ++ Builtin.zeroCells zv.cells (cap' - (xs.length + m))) e (0, 0)) := heap_alloc_new w.drew _
  have hones : AV.ones (xs.flatMap AV.cells ++ srcC y H) := fun x hx => by
    rcases List.mem_append.1 hx with h | h
    · exact ho1 x h
    · exact ho2 x h
  have le := Gh.le_addV (Γ := Γ) (p := (w.heap.size, cap')) (hTf (xs.length + m))
  refine ⟨_, _, _, hrun, le, ?_, ?_⟩
  · exact .mv (cap := cap') (by simp [Gh.addV]) (by omega) (by omega) (fun _ => by rw [Nat.zero_mul])
  · refine hr.push _ w.heap.size ((Below.refl _ _).drew.alloc (Nat.le_refl _) _) le (Nat.le_refl _) (fun _ => row_at_new (fun o => hr.noI o) (fun q _ => hTf q) (hTf _) hh ?_ hmx hge (vs := olds ++ news) ?_ (hv1.append hv2) hones) (fun _ _ _ h => .inl h) (fun _ _ => rfl) (fun j hj => by funext q; simp [Gh.addV, hj]) rfl
    · simp only [Array.size_append, List.size_toArray, Builtin.zeroCells, Array.size_map, Array.size_range, hzs, hl1, hl2]
      rw [← Nat.add_mul, ← Nat.add_mul]
      congr 1
      omega
    · simp only [Array.toList_append]
      rw [List.take_append, List.take_of_length_le (by simp only [List.length_append]; rw [hl1, hl2, Nat.add_mul]; exact Nat.le_refl _)]
      rw [show (xs.length + m) * i.size - (olds ++ news).length = 0 by simp only [List.length_append]; rw [hl1, hl2, Nat.add_mul]; omega]
      simp

/-- nil has no room -/
def AV.ex : AV → AV
  | .sl .nil xs => .sl .exact xs
  | x => x
theorem VR.ex {Γ : Gh} {x : AV} {v : Value} (r : VR Γ x v) : VR Γ x.ex v := by
  unfold AV.ex
  split
  · cases r with
    | sl0 h => exact .sl0 h.1
    | sl hn hs h1 h hi ho hc => exact .sl hn hs h1 h hi ho.1 hc
  · exact r
/-- whose a slice is that was appended to -/
def appOwn (own : Own) (m : Nat) (H : List HO) : Own := match own with | .exact => if m = 0 then .exact else .tok H.length | o => o
def appHo (own : Own) (n m sz : Nat) (H : List HO) : List HO := match own with | .exact => if m = 0 then H else H ++ [.spare (n + m) sz] | .tok i => H.set i (.spare (n + m) sz) | .no => H | .nil => H
def appOk (own : Own) (n m sz : Nat) (H : List HO) : Prop := match own with | .exact => True | .tok i => H[i]? = some (.spare n sz) | .no => m = 0 | .nil => False
def szA (P : Program) (t : TypeId) : Nat := match slOf P t with | some (_, sz) => sz | none => 0
/-- b: is it to be a row. -/
def appV (P : Program) (t : TypeId) (b : Bool) (x y : AV) (H : List HO) : AV :=
  match x with
  | .mv id n sz _ _ => .mv id (n + srcN y) sz 0 (n + srcN y)
  | .sl .exact xs => if b = true then (if srcN y = 0 then .sl .exact xs else .mv H.length (xs.length + srcN y) (szA P t) 0 (xs.length + srcN y)) else match y with | .sl _ ys => .sl (appOwn .exact ys.length H) (xs ++ ys) | _ => .any
  | .sl own xs => match y with | .sl _ ys => .sl (appOwn own ys.length H) (xs ++ ys) | _ => .any
  | _ => .any
def appH (P : Program) (t : TypeId) (b : Bool) (x y : AV) (H : List HO) : List HO :=
  match x with
  | .mv id n sz _ _ => match H[id]? with | some (.row _ _ cs) => H.set id (.row (n + srcN y) sz (cs ++ srcC y H)) | _ => H
  | .sl .exact xs => if b = true then (if srcN y = 0 then H else H ++ [.row (xs.length + srcN y) (szA P t) (xs.flatMap AV.cells ++ srcC y H)]) else match y with | .sl _ ys => appHo .exact xs.length ys.length (szA P t) H | _ => H
  | .sl own xs => match y with | .sl _ ys => appHo own xs.length ys.length (szA P t) H | _ => H
  | _ => H
def appT (P : Program) (t t' : TypeId) (n m : Nat) (sz : Nat) : Prop :=
  match slOf P t with
  | some (e, sz') => t' = t ∧ sz' = sz ∧ 0 < sz ∧ (∃ z by', zOf P e = some z ∧ z.cells.length = sz ∧ z.cells.all AV.one = true ∧ byOf P e = some by' ∧ (n + m) * by' ≤ 140737488355328) ∧ n + m ≤ maxLen
  | none => False
def appS (P : Program) (t t' : TypeId) (b : Bool) (x y : AV) (H : List HO) : Prop :=
  match x with
  | .mv id n sz off len => off = 0 ∧ len = n ∧ appT P t t' n (srcN y) sz ∧ srcS y H sz ∧ match H[id]? with | some (.row n' sz' _) => n' = n ∧ sz' = sz | _ => False
  | .sl .exact xs => if b = true then appT P t t' xs.length (srcN y) (szA P t) ∧ (∀ a, a ∈ xs → a.cells.length = szA P t) ∧ srcS y H (szA P t) else match y with | .sl _ ys => appT P t t' xs.length ys.length (szA P t) ∧ (∀ a, a ∈ xs → a.cells.length = szA P t) ∧ (∀ a, a ∈ ys → a.cells.length = szA P t) | _ => False
  | .sl own xs => match y with | .sl _ ys => appT P t t' xs.length ys.length (szA P t) ∧ (∀ a, a ∈ xs → a.cells.length = szA P t) ∧ (∀ a, a ∈ ys → a.cells.length = szA P t) ∧ appOk own xs.length ys.length (szA P t) H | _ => False
  | _ => False

theorem appT.row {P : Program} {t t' n m sz : Nat} (h : appT P t t' n m sz) : t' = t ∧ szA P t = sz ∧ ∃ e, RowT P t e sz n m := by
  unfold appT at h
  unfold szA
  split at h
  · rename_i e sz' hsl
    obtain ⟨rfl, rfl, h1, h2, h3⟩ := h
    exact ⟨rfl, rfl, e, hsl, h1, h2, h3⟩
  · exact h.elim

theorem app_run1 {P : Program} {w0 : Bs} {Γ : Gh} {H : List HO} {w : World} {t t' ty : TypeId} {own own' : Own} {xs ys : List AV} {vx vy : Value} (hr : R w0 Γ H w) (ht : appT P t t' xs.length ys.length (szA P t)) (hxs : ∀ a, a ∈ xs → a.cells.length = szA P t) (hys : ∀ a, a ∈ ys → a.cells.length = szA P t)
    (hok : appOk own xs.length ys.length (szA P t) H) (hx : VR Γ (.sl own xs) vx) (hy : VR Γ (.sl own' ys) vy) :
    ∃ Γ' v w', (Builtin.append_ #[t, t'] ty #[vx, vy]).run P w = .ok v w' ∧ Gh.Le Γ Γ' ∧ VR Γ' (.sl (appOwn own ys.length H) (xs ++ ys)) v ∧ R w0 Γ' (appHo own xs.length ys.length (szA P t) H) w' := by
  unfold appT at ht
  split at ht
  · rename_i e sz hsl
    obtain ⟨rfl, rfl, h1, h2, h3⟩ := ht
    have hs : appS0 P t' t' (.sl own xs) (.sl own' ys) H := by
      unfold appS0
      rw [hsl]
      refine ⟨rfl, h1, h2, h3, hxs, hys, ?_⟩
      cases own <;> exact hok
    obtain ⟨Γ', v, w', k1, k2, k3, k4⟩ := app_run0 (ty := ty) hr hs hx hy
    refine ⟨Γ', v, w', k1, k2, ?_, ?_⟩
    · cases own with
      | nil => exact hok.elim
      | no =>
        have : ys = [] := List.eq_nil_of_length_eq_zero hok
        subst this
        simpa [appV0, appOwn] using k3
      | exact =>
        simp only [appV0, appOwn] at k3 ⊢
        split
        · rename_i h0
          rw [if_pos h0] at k3
          have : ys = [] := List.eq_nil_of_length_eq_zero h0
          subst this
          simpa using k3
        · rename_i h0
          rw [if_neg h0] at k3; exact k3
      | tok i => simpa [appV0, appOwn] using k3
    · cases own with
      | nil => exact hok.elim
      | no => simpa [appH0, appHo, hsl] using k4
      | exact => simpa [appH0, appHo, hsl] using k4
      | tok i => simpa [appH0, appHo, hsl] using k4
  · exact ht.elim

theorem app_run {P : Program} {w0 : Bs} {Γ : Gh} {H : List HO} {w : World} {t t' ty : TypeId} {b : Bool} {x y : AV} {vx vy : Value} (hr : R w0 Γ H w) (hs : appS P t t' b x y H) (hx : VR Γ x vx) (hy : VR Γ y vy) :
    ∃ Γ' v w', (Builtin.append_ #[t, t'] ty #[vx, vy]).run P w = .ok v w' ∧ Gh.Le Γ Γ' ∧ VR Γ' (appV P t b x y H) v ∧ R w0 Γ' (appH P t b x y H) w' := by
  unfold appS at hs
  unfold appV appH
  split at hs
  · rename_i id n sz off len
    obtain ⟨rfl, rfl, ht, hsrc, hi⟩ := hs
    obtain ⟨rfl, rfl, e, hty⟩ := ht.row
    split at hi
    · rename_i n' sz' cs hi'
      obtain ⟨rfl, rfl⟩ := hi
      skip
      exact rapp_run hr hty hi' hx hy hsrc
    · exact hi.elim
  · rename_i xs
    cases b with
    | false =>
      simp only [Bool.false_eq_true, if_false] at hs ⊢
      cases y with
      | sl own' ys => exact app_run1 hr hs.1 hs.2.1 hs.2.2 trivial hx hy
      | _ => exact hs.elim
    | true =>
      simp only [if_true] at hs ⊢
      obtain ⟨ht, hxs, hsrc⟩ := hs
      obtain ⟨rfl, _, e, hty⟩ := ht.row
      by_cases h0 : srcN y = 0
      · rw [if_pos h0, if_pos h0]
        obtain ⟨hu, hszo⟩ := slOf_some hty.sl
        obtain ⟨a1, cap, olds, rfl, f1, hc1, _⟩ := sl_first hx hxs
        obtain ⟨a2, cap2, news, rfl, hc2, _⟩ := src_run (P := P) hr hsrc hy
        rw [h0]
        exact ⟨Γ, _, w, run_append_zero w hu hszo a1 a2 _ _ _ hc1, Gh.Le.refl Γ, hx, hr⟩
      · rw [if_neg h0, if_neg h0]
        exact rnew_run hr hty hxs hx hy hsrc h0
  · rename_i own xs _
    cases y with
    | sl own' ys => exact app_run1 hr hs.1 hs.2.1 hs.2.2.1 hs.2.2.2 hx hy
    | _ => exact hs.elim
  · exact hs.elim
end Go.Proofs.YtjplcdeaedflpaaGreatDoor.PL

namespace Go.Proofs.YtjplcdeaedflpaaGreatDoor.PL
open Go.RowKit

/-! ### maps -/
theorem bytes_beq (a b : ByteArray) : (a == b) = decide (a = b) := by
  rw [Bool.eq_iff_iff, decide_eq_true_iff]
  show (ByteArray.beq a b) = true ↔ _
  simp only [ByteArray.beq, beq_iff_eq]
  exact ⟨fun h => by cases a; cases b; simp at h; rw [h], fun h => by rw [h]⟩
theorem ints_beq (a b : Int) : (a == b) = decide (a = b) := by rw [Bool.eq_iff_iff]; simp
def kEq (x y : AV) : Bool :=
  match x, y with
  | .int _ a, .int _ b => decide (a = b)
  | .str a, .str b => decide (a = b)
  | .agg a, .agg b => eqCells a b
  | _, _ => false
/-- where a key is, and what stands there -/
def findK (k : AV) : List (AV × AV) → Nat → Option (Nat × AV)
  | [], _ => none
  | (a, v) :: es, i => if kEq k a = true then some (i, v) else findK k es (i + 1)
def keyT (P : Program) (t : TypeId) (k : AV) : Prop :=
  match k with
  | .int q _ => P.underlying t = some (.int q)
  | .str _ => P.underlying t = some .string
  | .agg cs => (∃ fs, P.underlying t = some (.struct fs)) ∧ ∀ (Γ : Gh) (vs : List Value) (b : Bool) (w : World), VRs Γ cs vs → (Instr.checkKey b 10000 t (.agg vs.toArray)).run P w = .ok () w
  | _ => False
/-- two structs as keys -/
def sameKs (P : Program) (t : TypeId) (x y : List AV) : Prop := EqT P t x y ∧ ∀ (Γ : Gh) (vs us : List Value), VRs Γ x vs → VRs Γ y us → eqCells x y = true → Instr.sameBits 10000 (.agg us.toArray) (.agg vs.toArray) = true
def pairT (P : Program) (t : TypeId) (k a : AV) : Prop :=
  match k, a with
  | .agg x, .agg y => sameKs P t x y
  | .agg _, _ => False
  | _, .agg _ => False
  | _, _ => True
def keysT (P : Program) (t : TypeId) (k : AV) (es : List (AV × AV)) : Prop := keyT P t k ∧ ∀ e, e ∈ es → keyT P t e.1 ∧ pairT P t k e.1
def mapOf (P : Program) (t : TypeId) : Option (TypeId × AV) :=
  match P.underlying t with
  | some (.map k e) => (zOf P e).map fun z => (k, z)
  | _ => none
theorem mapOf_some {P : Program} {t kt : TypeId} {z : AV} (h : mapOf P t = some (kt, z)) : ∃ e, P.underlying t = some (.map kt e) ∧ zOf P e = some z := by
  unfold mapOf at h
  split at h
  · rename_i k e hu
    cases hz : zOf P e with
    | none => rw [hz] at h; cases h
    | some z' => rw [hz] at h; simp at h; obtain ⟨rfl, rfl⟩ := h; exact ⟨e, hu, hz⟩
  · cases h

def putO (w : World) (b : Nat) (o : Obj) : World := { w with heap := w.heap.setIfInBounds b o }
theorem run_getObj' {P : Program} {w : World} {b : Nat} {es : Array MapEntry} {clock : Nat} (h : w.heap[b]? = some (.map es clock)) : (getObj b).run P w = .ok (.map es clock) w := by simp [getObj, Sem.run, h]
theorem run_setObj' {P : Program} {w : World} {b : Nat} {es : Array MapEntry} {clock : Nat} (o' : Obj) (h : w.heap[b]? = some (.map es clock)) : (setObj b o').run P w = .ok () (putO w b o') := by simp [setObj, Sem.run, h, putO]
theorem grownBy_putObj (w : World) (b : Nat) (o : Obj) : w.grownBy (putO w b o) (some b) :=
  ⟨rfl, rfl, rfl, by simp [putO], fun k hk hne => by
    have : k ≠ b := by simpa using hne
    simp only [putO, Array.getElem?_setIfInBounds]
    rw [if_neg (fun e => this e.symm)]⟩
theorem putObj_same {w : World} {b : Nat} {o o' : Obj} (h : w.heap[b]? = some o) : (putO w b o').heap[b]? = some o' := by
  have := (Array.getElem?_eq_some_iff.1 h).1
  simp [putO, Array.getElem?_setIfInBounds, this]

theorem keyT_check {P : Program} {t : TypeId} {k : AV} {v : Value} {Γ : Gh} (h : keyT P t k) (hv : VR Γ k v) (b : Bool) (w : World) : (Instr.checkKey b 10000 t v).run P w = .ok () w := by
  by_cases hag : ∃ cs, k = .agg cs
  · obtain ⟨cs, rfl⟩ := hag
    cases hv with
    | agg h1 h2 => exact h.2 Γ _ b w h2
  show (Instr.checkKey b (9999 + 1) t v).run P w = _
  generalize 9999 = d
  unfold keyT at h
  split at h
  · cases hv; simp [Instr.checkKey, run_underlying' h]
  · cases hv; simp [Instr.checkKey, run_underlying' h]
  · exact absurd ⟨_, rfl⟩ hag
  · exact h.elim

theorem findNow_ok {P : Program} {t : TypeId} {Γ : Gh} {k : AV} {kv : Value} {d : TypeDesc} (hd : P.underlying t = some d) (hna : ∀ cs, k ≠ .agg cs) (hk : keyT P t k) (hv : VR Γ k kv) : ∀ {es : List (AV × AV)} {ents : List MapEntry} (i : Nat), (∀ e, e ∈ es → keyT P t e.1) → VRm Γ es ents →
    ∃ r, Instr.findNow d kv ents i = some r ∧ match findK k es i with
      | none => r = none
      | some (j, v) => ∃ vv, r = some (j, vv) ∧ VR Γ v vv ∧ i ≤ j ∧ ∃ e en, es[j - i]? = some e ∧ ents[j - i]? = some en ∧ en.val = vv ∧ e.2 = v ∧ kEq k e.1 = true ∧ VR Γ e.1 en.key
  | [], [], i, _, .nil => ⟨none, rfl, rfl⟩
  | (a, v) :: es, en :: ents, i, h, .cons hka hva ht => by
    have hT : keyT P t a := h _ (List.mem_cons_self ..)
    have same : Instr.sameNow d kv en.key = some (kEq k a) := by
      unfold keyT at hk hT
      split at hk
      · rename_i q n
        cases hv
        rw [hd] at hk; cases hk
        split at hT
        · rename_i q' n'
          rw [hd] at hT; cases hT
          generalize hw : en.key = u at hka
          cases hka
          simp only [Instr.sameNow, kEq, if_true, ints_beq, bytes_beq]
        · rw [hd] at hT; cases hT
        · obtain ⟨⟨fs, hfs⟩, _⟩ := hT; rw [hd] at hfs; cases hfs
        · exact hT.elim
      · rename_i s
        cases hv
        rw [hd] at hk; cases hk
        split at hT
        · rw [hd] at hT; cases hT
        · rename_i s'
          generalize hw : en.key = u at hka
          cases hka
          simp only [Instr.sameNow, kEq, if_true, ints_beq, bytes_beq]
        · obtain ⟨⟨fs, hfs⟩, _⟩ := hT; rw [hd] at hfs; cases hfs
        · exact hT.elim
      · exact absurd rfl (hna _)
      · exact hk.elim
    unfold Instr.findNow
    rw [same]
    unfold findK
    cases hkeq : kEq k a with
    | true =>
      refine ⟨_, rfl, ?_⟩
      simp only [if_true]
      exact ⟨en.val, rfl, hva, Nat.le_refl _, (a, v), en, by simp, by simp, rfl, rfl, hkeq, hka⟩
    | false =>
      obtain ⟨r, h1, h2⟩ := findNow_ok hd hna hk hv (i + 1) (fun e he => h e (List.mem_cons_of_mem _ he)) ht
      refine ⟨r, h1, ?_⟩
      simp only [Bool.false_eq_true, if_false]
      split at h2
      · exact h2
      · obtain ⟨vv, k1, k2, k3, e, en', k4, k5, k6⟩ := h2
        rename_i j u hj
        have e1 : j - i = (j - (i + 1)) + 1 := by omega
        exact ⟨vv, k1, k2, by omega, e, en', by rw [e1]; simpa using k4, by rw [e1]; simpa using k5, k6⟩

theorem findAsk_ok {P : Program} {t : TypeId} {Γ : Gh} {x : List AV} {vx : List Value} (hx : AV.ones x) (hv : VRs Γ x vx) (w : World) : ∀ {es : List (AV × AV)} {ents : List MapEntry} (i : Nat), (∀ e, e ∈ es → pairT P t (.agg x) e.1) → VRm Γ es ents →
    ∃ r, (Instr.findAsking t (.agg vx.toArray) ents i).run P w = .ok r w ∧ match findK (.agg x) es i with
      | none => r = none
      | some (j, v) => ∃ vv, r = some (j, vv) ∧ VR Γ v vv ∧ i ≤ j ∧ ∃ e en, es[j - i]? = some e ∧ ents[j - i]? = some en ∧ en.val = vv ∧ e.2 = v ∧ kEq (.agg x) e.1 = true ∧ VR Γ e.1 en.key
  | [], [], i, _, .nil => ⟨none, by simp [Instr.findAsking], rfl⟩
  | (a, v) :: es, en :: ents, i, h, .cons hka hva ht => by
    have hT : pairT P t (.agg x) a := h _ (List.mem_cons_self ..)
    have same : (Op.equal t (.agg vx.toArray) en.key).run P w = .ok (kEq (.agg x) a) w := by
      cases a <;> first | exact False.elim hT | skip
      rename_i y
      have hT' : sameKs P t x y := hT
      generalize hw : en.key = u at hka
      cases hka with
      | agg h1 h2 => exact (hT'.1 Γ _ _ w hv h2).2
    unfold Instr.findAsking
    rw [Sem.run_bind, same]
    simp only [Result.andThen_ok]
    unfold findK
    cases hkeq : kEq (.agg x) a with
    | true =>
      refine ⟨some (i, en.val), by simp, ?_⟩
      simp only [if_true]
      exact ⟨en.val, rfl, hva, Nat.le_refl _, (a, v), en, by simp, by simp, rfl, rfl, hkeq, hka⟩
    | false =>
      obtain ⟨r, h1, h2⟩ := findAsk_ok hx hv w (i + 1) (fun e he => h e (List.mem_cons_of_mem _ he)) ht
      refine ⟨r, by simpa using h1, ?_⟩
      simp only [Bool.false_eq_true, if_false]
      split at h2
      · exact h2
      · obtain ⟨vv, k1, k2, k3, e, en', k4, k5, k6⟩ := h2
        rename_i j u hj
        have e1 : j - i = (j - (i + 1)) + 1 := by omega
        exact ⟨vv, k1, k2, by omega, e, en', by rw [e1]; simpa using k4, by rw [e1]; simpa using k5, k6⟩

theorem findKey_ok {P : Program} {t : TypeId} {Γ : Gh} {k : AV} {kv : Value} {es : List (AV × AV)} {ents : List MapEntry} (h : keysT P t k es) (hv : VR Γ k kv) (hm : VRm Γ es ents) (w : World) :
    ∃ r, (Instr.findKey t kv ents).run P w = .ok r w ∧ match findK k es 0 with
      | none => r = none
      | some (j, v) => ∃ vv, r = some (j, vv) ∧ VR Γ v vv ∧ ∃ e en, es[j]? = some e ∧ ents[j]? = some en ∧ en.val = vv ∧ e.2 = v ∧ kEq k e.1 = true ∧ VR Γ e.1 en.key := by
  by_cases hag : ∃ cs, k = .agg cs
  · obtain ⟨x, rfl⟩ := hag
    obtain ⟨⟨fs, hfs⟩, _⟩ := h.1
    cases hv with
    | @agg _ vs h1 h2 =>
    obtain ⟨r, h3, h4⟩ := findAsk_ok (P := P) (t := t) h1 h2 w 0 (fun e he => (h.2 e he).2) hm
    cases hm with
    | nil => exact ⟨none, by simp [Instr.findKey, run_underlying' hfs, Instr.findNow], rfl⟩
    | cons hka hva ht =>
      refine ⟨r, by simp [Instr.findKey, run_underlying' hfs, Instr.findNow, Instr.sameNow, h3], ?_⟩
      split at h4
      · exact h4
      · obtain ⟨vv, k1, k2, _, e, en, k4, k5, k6⟩ := h4
        exact ⟨vv, k1, k2, e, en, by simpa using k4, by simpa using k5, k6⟩
  have hna : ∀ cs, k ≠ .agg cs := fun cs hc => hag ⟨cs, hc⟩
  have hd : ∃ d, P.underlying t = some d := by
    have := h.1
    unfold keyT at this
    split at this
    · exact ⟨_, this⟩
    · exact ⟨_, this⟩
    · exact absurd rfl (hna _)
    · exact this.elim
  obtain ⟨d, hd⟩ := hd
  obtain ⟨r, h1, h2⟩ := findNow_ok hd hna h.1 hv 0 (fun e he => (h.2 e he).1) hm
  refine ⟨r, by simp [Instr.findKey, run_underlying' hd, h1], ?_⟩
  split at h2
  · exact h2
  · obtain ⟨vv, k1, k2, _, e, en, k4, k5, k6⟩ := h2
    exact ⟨vv, k1, k2, e, en, by simpa using k4, by simpa using k5, k6⟩

theorem stays {P : Program} {t : TypeId} {Γ : Gh} {k k' : AV} {kv kv' : Value} (hk : keyT P t k) (hk' : keyT P t k' ∧ pairT P t k k') (he : kEq k k' = true) (hv : VR Γ k kv) (hv' : VR Γ k' kv') (w : World) : (Instr.keyThatStays kv' kv).run P w = .ok kv w := by
  obtain ⟨hk', hp⟩ := hk'
  have : Instr.sameBits 10000 kv' kv = true := by
    unfold keyT at hk hk'
    split at hk
    · split at hk'
      · cases hv; cases hv'
        rw [hk] at hk'; cases hk'
        simp [kEq] at he
        subst he
        show Instr.sameBits (9999 + 1) _ _ = _
        simp [Instr.sameBits]
      · simp [kEq] at he
      · simp [kEq] at he
      · exact hk'.elim
    · split at hk'
      · simp [kEq] at he
      · cases hv; cases hv'
        simp [kEq] at he
        subst he
        show Instr.sameBits (9999 + 1) _ _ = _
        simp [Instr.sameBits, bytes_beq]
      · simp [kEq] at he
      · exact hk'.elim
    · rename_i x
      cases k' <;> first | exact False.elim hp | skip
      rename_i y
      have hp' : sameKs P t x y := hp
      cases hv with
      | agg h1 h2 =>
      cases hv' with
      | agg h3 h4 => exact hp'.2 Γ _ _ h2 h4 he
    · exact hk.elim
  simp [Instr.keyThatStays, this]

theorem R.mp {w0 : Bs} {Γ : Gh} {H : List HO} {w : World} (hr : R w0 Γ H w) {i b : Nat} {es : List (AV × AV)} {c : Option Nat} (hi : H[i]? = some (.mp es c)) (hB : Γ.B i = some b) :
    ∃ ents clock, w.heap[b]? = some (.map ents clock) ∧ VRm Γ es ents.toList ∧ ∀ k, c = some k → clock = k + es.length ∧ ents.toList.map (·.born) = List.range' k es.length := by
  obtain ⟨bs, hobj, _⟩ := hr.obj
  obtain ⟨_, h1, ⟨ents, clock, h2, h3, h4⟩, _⟩ := hobj i _ hi rfl
  rw [hB] at h1
  cases h1
  exact ⟨ents, clock, h2, h3, h4⟩

theorem VRm.length {Γ : Gh} : ∀ {es : List (AV × AV)} {ents : List MapEntry}, VRm Γ es ents → es.length = ents.length
  | [], [], .nil => rfl
  | _ :: _, _ :: _, .cons _ _ t => by simp [VRm.length t]
theorem VRm.append {Γ : Gh} {k v : AV} {e : MapEntry} (hk : VR Γ k e.key) (hv : VR Γ v e.val) : ∀ {es : List (AV × AV)} {ents : List MapEntry}, VRm Γ es ents → VRm Γ (es ++ [(k, v)]) (ents ++ [e])
  | [], [], .nil => .cons hk hv .nil
  | _ :: _, _ :: _, .cons a b t => .cons a b (VRm.append hk hv t)
theorem VRm.set {Γ : Gh} {k v : AV} {e : MapEntry} (hk : VR Γ k e.key) (hv : VR Γ v e.val) : ∀ {es : List (AV × AV)} {ents : List MapEntry} (i : Nat), VRm Γ es ents → VRm Γ (es.set i (k, v)) (ents.set i e)
  | [], [], i, .nil => .nil
  | _ :: _, _ :: _, 0, .cons a b t => .cons hk hv t
  | _ :: _, _ :: _, i + 1, .cons a b t => .cons a b (VRm.set hk hv i t)
theorem VRm.erase {Γ : Gh} : ∀ {es : List (AV × AV)} {ents : List MapEntry} (i : Nat), VRm Γ es ents → VRm Γ (es.eraseIdx i) (ents.eraseIdx i)
  | [], [], i, .nil => .nil
  | _ :: _, _ :: _, 0, .cons a b t => t
  | _ :: _, _ :: _, i + 1, .cons a b t => .cons a b (VRm.erase i t)
theorem VRm.get {Γ : Gh} : ∀ {es : List (AV × AV)} {ents : List MapEntry}, VRm Γ es ents → ∀ (i : Nat) (e : AV × AV), es[i]? = some e → ∃ en, ents[i]? = some en ∧ VR Γ e.1 en.key ∧ VR Γ e.2 en.val
  | [], [], .nil, i, e, h => by simp at h
  | _ :: _, en :: _, .cons a b t, 0, e, h => by simp at h; subst h; exact ⟨en, by simp, a, b⟩
  | _ :: _, _ :: _, .cons a b t, i + 1, e, h => by
    simp at h
    obtain ⟨en, h1, h2⟩ := VRm.get t i e h
    exact ⟨en, by simpa using h1, h2⟩

/-- A map that turns. -/
theorem R.putMp {w0 : Bs} {Γ : Gh} {H : List HO} {w : World} (hr : R w0 Γ H w) {i b : Nat} {es es' : List (AV × AV)} {c c' : Option Nat} (hi : H[i]? = some (.mp es c)) (hB : Γ.B i = some b) {ents : Array MapEntry} {clock : Nat} (hv : VRm Γ es' ents.toList)
    (hc : ∀ k, c' = some k → clock = k + es'.length ∧ ents.toList.map (·.born) = List.range' k es'.length) : R w0 Γ (H.set i (.mp es' c')) (putO w b (.map ents clock)) := by
  obtain ⟨b', hb0, hbl, hat, hput⟩ := hr.put hi rfl
  obtain ⟨hB', ⟨ents0, clock0, hw, _⟩, hI⟩ := hat
  rw [hB] at hB'; cases hB'
  refine hput _ b Γ _ (grownBy_putObj w b _) (Gh.Le.refl Γ) (.inl rfl) (fun _ => ⟨hB, ⟨ents, clock, putObj_same hw, hv, hc⟩, hI⟩) ?_ (fun _ => rfl) (fun _ _ => rfl) rfl
  intro c o v h
  refine .inl ⟨h, ?_⟩
  rintro rfl
  rw [hI] at h; cases h

/-! #### look -/
def foundV (z : AV) (ok : Bool) (r : Option (Nat × AV)) : AV :=
  match r with
  | some (_, v) => if ok = true then .tup [v, .bool true] else v
  | none => if ok = true then .tup [z, .bool false] else z
def lkV (P : Program) (t : TypeId) (m k : AV) (ok : Bool) (H : List HO) : AV :=
  match mapOf P t with
  | some (_, z) => match m with
    | .map id => match H[id]? with | some (.mp es _) => foundV z ok (findK k es 0) | _ => .any
    | .nilm => foundV z ok none
    | _ => .any
  | none => .any
def lkS (P : Program) (t : TypeId) (m k : AV) (H : List HO) : Prop :=
  match mapOf P t with
  | some (kt, _) => match m with
    | .map id => match H[id]? with | some (.mp es _) => keysT P kt k es | _ => False
    | .nilm => keyT P kt k
    | _ => False
  | none => False
theorem lk_run {P : Program} {w0 : Bs} {Γ : Gh} {H : List HO} {w : World} {t : TypeId} {m k : AV} {ok : Bool} {vm vk : Value} (hr : R w0 Γ H w) (hs : lkS P t m k H) (hm : VR Γ m vm) (hk : VR Γ k vk) :
    ∃ v, (Instr.lookup t vm vk ok).run P w = .ok v w ∧ VR Γ (lkV P t m k ok H) v := by
  unfold lkS at hs
  unfold lkV
  split at hs
  · rename_i kt z hmo
    try rw [hmo]
    obtain ⟨e, hu, hz⟩ := mapOf_some hmo
    obtain ⟨zv, hzr, hzv⟩ := zOf_run hz w
    try dsimp only
    split at hs
    · rename_i id
      cases hm with
      | @map _ b hB =>
      split at hs
      · rename_i es c hi
        obtain ⟨ents, clock, h1, h2, _⟩ := hr.mp hi hB
        obtain ⟨r, h3, h4⟩ := findKey_ok (P := P) hs hk h2 w
        try simp only [hi]
        have hck := keyT_check (P := P) hs.1 hk ents.isEmpty w
        split at h4
        · rename_i hf
          subst h4
          rw [hf]
          refine ⟨if ok then .tuple #[zv, .bool false] else zv, ?_, ?_⟩
          · simp only [Instr.lookup, Sem.run_bind, run_underlying' hu, Result.andThen_ok, run_getObj' h1, Sem.run_pure, hck, h3, hzr]
          · cases ok
            · exact hzv Γ
            · exact .tup (.cons (hzv Γ) (.cons (.bool _) .nil))
        · rename_i j v hf
          obtain ⟨vv, rfl, hvv, _⟩ := h4
          rw [hf]
          refine ⟨if ok then .tuple #[vv, .bool true] else vv, ?_, ?_⟩
          · simp only [Instr.lookup, Sem.run_bind, run_underlying' hu, Result.andThen_ok, run_getObj' h1, Sem.run_pure, hck, h3]
          · cases ok
            · exact hvv
            · exact .tup (.cons hvv (.cons (.bool _) .nil))
      · exact hs.elim
    · cases hm
      have hck := keyT_check (P := P) hs hk true w
      obtain ⟨r, h3, h4⟩ := findKey_ok (P := P) (Γ := Γ) (es := []) (ents := []) ⟨hs, fun e he => by cases he⟩ hk .nil w
      simp only [findK] at h4
      subst h4
      refine ⟨if ok then .tuple #[zv, .bool false] else zv, ?_, ?_⟩
      · have hemp : (#[] : Array MapEntry).isEmpty = true := rfl
        simp only [Instr.lookup, Sem.run_bind, run_underlying' hu, Result.andThen_ok, Sem.run_pure, hemp, hck, h3, hzr]
      · cases ok
        · exact hzv Γ
        · exact .tup (.cons (hzv Γ) (.cons (.bool _) .nil))
    · exact hs.elim
  · exact hs.elim

/-! #### put -/
def putK (k v : AV) (es : List (AV × AV)) : List (AV × AV) := match findK k es 0 with | some (i, _) => es.set i (k, v) | none => es ++ [(k, v)]
def muS (P : Program) (t : TypeId) (m k : AV) (H : List HO) : Prop :=
  match mapOf P t, m with
  | some (kt, _), .map id => match H[id]? with | some (.mp es _) => keysT P kt k es | _ => False
  | _, _ => False
def muH (m k x : AV) (H : List HO) : List HO :=
  match m with
  | .map id => match H[id]? with | some (.mp es c) => H.set id (.mp (putK k x es) c) | _ => H
  | _ => H

theorem born_set {ents : List MapEntry} {j : Nat} {en e' : MapEntry} (h : ents[j]? = some en) (hb : e'.born = en.born) : (ents.set j e').map (·.born) = ents.map (·.born) := by
  apply List.ext_getElem?
  intro i
  rw [List.getElem?_map, List.getElem?_map]
  by_cases e : j = i
  · subst e
    rw [List.getElem?_set_self (List.getElem?_eq_some_iff.1 h).1, h]
    simp [hb]
  · rw [List.getElem?_set_ne e]

theorem mu_run {P : Program} {w0 : Bs} {Γ : Gh} {H : List HO} {w : World} {t : TypeId} {m k x : AV} {vm vk vx : Value} (hr : R w0 Γ H w) (hs : muS P t m k H) (hm : VR Γ m vm) (hk : VR Γ k vk) (hx : VR Γ x vx) :
    ∃ w', (Instr.mapUpdate t vm vk vx).run P w = .ok () w' ∧ R w0 Γ (muH m k x H) w' := by
  unfold muS at hs
  unfold muH
  split at hs
  · rename_i kt z id hmo
    obtain ⟨e, hu, hz⟩ := mapOf_some hmo
    split at hs
    · rename_i es c hi
      try simp only [hi]
      cases hm with
      | @map _ b hB =>
      obtain ⟨ents, clock, h1, h2, hcl⟩ := hr.mp hi hB
      obtain ⟨r, h3, h4⟩ := findKey_ok (P := P) hs hk h2 w
      have hck := keyT_check (P := P) hs.1 hk false w
      unfold putK
      split at h4
      · rename_i hf
        subst h4
        rw [hf]
        refine ⟨putO w b (.map (ents.push { key := vk, val := vx, born := clock }) (clock + 1)), ?_, ?_⟩
        · simp only [Instr.mapUpdate, Sem.run_bind, run_underlying' hu, Result.andThen_ok, run_getObj' h1, Sem.run_pure, hck, h3]
          exact run_setObj' _ h1
        · refine hr.putMp hi hB ?_ ?_
          · simp only [Array.toList_push]
            exact VRm.append (e := { key := vk, val := vx, born := clock }) hk hx h2
          · intro q hq
            obtain ⟨g1, g2⟩ := hcl q hq
            simp only [Array.toList_push, List.map_append, List.map_cons, List.map_nil, List.length_append, List.length_cons, List.length_nil, g2, g1]
            refine ⟨by omega, ?_⟩
            rw [List.range'_concat]; simp
      · rename_i j v hf
        obtain ⟨vv, rfl, hvv, e0, en, g1, g2, g3, g4, g5, g6⟩ := h4
        rw [hf]
        have hst := stays (P := P) hs.1 (hs.2 e0 (List.mem_of_getElem? g1)) g5 hk g6 w
        have hgk : ((ents[j]?).map (·.key)).getD vk = en.key := by
          rw [Array.getElem?_toList] at g2
          rw [g2]; rfl
        have hmod : (ents.modify j fun e => { e with key := vk, val := vx }).toList = ents.toList.set j { en with key := vk, val := vx } := by
          apply List.ext_getElem?
          intro i
          rw [Array.getElem?_toList, Array.getElem?_modify]
          by_cases e : j = i
          · subst e
            rw [if_pos rfl, List.getElem?_set_self (List.getElem?_eq_some_iff.1 g2).1]
            rw [Array.getElem?_toList] at g2
            rw [g2]; rfl
          · rw [if_neg e, List.getElem?_set_ne e, Array.getElem?_toList]
        refine ⟨putO w b (.map (ents.modify j fun e => { e with key := vk, val := vx }) clock), ?_, ?_⟩
        · simp only [Instr.mapUpdate, Sem.run_bind, run_underlying' hu, Result.andThen_ok, run_getObj' h1, Sem.run_pure, hck, h3, hgk, hst]
          exact run_setObj' _ h1
        · refine hr.putMp hi hB ?_ ?_
          · rw [hmod]
            exact VRm.set (e := { en with key := vk, val := vx }) hk hx j h2
          · intro q hq
            have hb := born_set (e' := { en with key := vk, val := vx }) g2 rfl
            rw [hmod, hb]
            simp only [List.length_set]
            exact hcl q hq
    · exact hs.elim
  · exact hs.elim

/-! #### an entry, and a store into it -/
def meS (P : Program) (t : TypeId) (m k : AV) (H : List HO) : Prop :=
  match mapOf P t, m with
  | some (kt, _), .map id => match H[id]? with | some (.mp es (some _)) => keysT P kt k es | _ => False
  | _, _ => False
def meV (P : Program) (t : TypeId) (m k : AV) (H : List HO) : AV :=
  match mapOf P t, m with
  | some (_, z), .map id => match H[id]? with
    | some (.mp es (some c)) => match findK k es 0 with | some (i, v) => .tup [v, .int .i64 (c + i : Nat)] | none => .tup [z, .int .i64 (c + es.length : Nat)]
    | _ => .any
  | _, _ => .any
def meH (P : Program) (t : TypeId) (m k : AV) (H : List HO) : List HO :=
  match mapOf P t, m with
  | some (_, z), .map id => match H[id]? with
    | some (.mp es c) => match findK k es 0 with | some (i, v) => H.set id (.mp (es.set i (k, v)) c) | none => H.set id (.mp (es ++ [(k, z)]) c)
    | _ => H
  | _, _ => H
theorem me_run {P : Program} {w0 : Bs} {Γ : Gh} {H : List HO} {w : World} {t : TypeId} {m k : AV} {vm vk : Value} (hr : R w0 Γ H w) (hs : meS P t m k H) (hm : VR Γ m vm) (hk : VR Γ k vk) :
    ∃ v w', (Instr.mapEntry t vm vk).run P w = .ok v w' ∧ VR Γ (meV P t m k H) v ∧ R w0 Γ (meH P t m k H) w' := by
  unfold meS at hs
  unfold meV meH
  split at hs
  · rename_i kt z id hmo
    obtain ⟨e, hu, hz⟩ := mapOf_some hmo
    obtain ⟨zv, hzr, hzv⟩ := zOf_run hz w
    try simp only [hmo]
    split at hs
    · rename_i es c hi
      try simp only [hi]
      cases hm with
      | @map _ b hB =>
      obtain ⟨ents, clock, h1, h2, hcl⟩ := hr.mp hi hB
      obtain ⟨c1, c2⟩ := hcl c rfl
      obtain ⟨r, h3, h4⟩ := findKey_ok (P := P) hs hk h2 w
      have hck := keyT_check (P := P) hs.1 hk false w
      split at h4
      · rename_i hf
        subst h4
        simp only [hf]
        refine ⟨.tuple #[zv, goInt clock], putO w b (.map (ents.push { key := vk, val := zv, born := clock }) (clock + 1)), ?_, ?_, ?_⟩
        · simp only [Instr.mapEntry, Sem.run_bind, run_underlying' hu, Result.andThen_ok, run_getObj' h1, Sem.run_pure, hck, h3, hzr, run_setObj' _ h1]
        · rw [c1]
          exact .tup (.cons (hzv Γ) (.cons (.int _ _) .nil))
        · refine hr.putMp hi hB ?_ ?_
          · simp only [Array.toList_push]
            exact VRm.append (e := { key := vk, val := zv, born := clock }) hk (hzv Γ) h2
          · intro q hq
            cases hq
            simp only [Array.toList_push, List.map_append, List.map_cons, List.map_nil, List.length_append, List.length_cons, List.length_nil, c2, c1]
            refine ⟨by omega, ?_⟩
            rw [List.range'_concat]; simp
      · rename_i j v hf
        obtain ⟨vv, rfl, hvv, e0, en, g1, g2, g3, g4, g5, g6⟩ := h4
        simp only [hf]
        have hst := stays (P := P) hs.1 (hs.2 e0 (List.mem_of_getElem? g1)) g5 hk g6 w
        have g2' : ents[j]? = some en := by rw [← Array.getElem?_toList]; exact g2
        have hgk : ((ents[j]?).map (·.key)).getD vk = en.key := by rw [g2']; rfl
        have hmod : (ents.modify j fun e => { e with key := vk }).toList = ents.toList.set j { en with key := vk } := by
          apply List.ext_getElem?
          intro i
          rw [Array.getElem?_toList, Array.getElem?_modify]
          by_cases e : j = i
          · subst e
            rw [if_pos rfl, List.getElem?_set_self (List.getElem?_eq_some_iff.1 g2).1, g2']; rfl
          · rw [if_neg e, List.getElem?_set_ne e, Array.getElem?_toList]
        have hborn : en.born = c + j := by
          have : (ents.toList.map (·.born))[j]? = some en.born := by rw [List.getElem?_map, g2]; rfl
          rw [c2, List.getElem?_range'] at this
          · simpa using this.symm
          · exact (List.getElem?_eq_some_iff.1 g1).1
        have hgb : ((ents[j]?).map (fun x => (x.born : Int))).getD 0 = ((c + j : Nat) : Int) := by rw [g2']; simp [hborn]
        refine ⟨.tuple #[vv, goInt (c + j : Nat)], putO w b (.map (ents.modify j fun e => { e with key := vk }) clock), ?_, ?_, ?_⟩
        · simp only [Instr.mapEntry, Sem.run_bind, run_underlying' hu, Result.andThen_ok, run_getObj' h1, Sem.run_pure, hck, h3, hgk, hst, run_setObj' _ h1, hgb]
        · exact .tup (.cons hvv (.cons (.int _ _) .nil))
        · refine hr.putMp hi hB ?_ ?_
          · rw [hmod]
            exact VRm.set (e := { en with key := vk }) hk (by show VR Γ v en.val; rw [g3]; exact hvv) j h2
          · intro q hq
            have hb := born_set (e' := { en with key := vk }) g2 rfl
            rw [hmod, hb]
            simp only [List.length_set]
            exact hcl q hq
    · exact hs.elim
  · exact hs.elim

def esS (m s : AV) (H : List HO) : Prop :=
  match m, s with
  | .map id, .int _ n => match H[id]? with | some (.mp es (some c)) => (c : Int) ≤ n ∧ n < c + es.length | _ => False
  | _, _ => False
def esH (m s x : AV) (H : List HO) : List HO :=
  match m, s with
  | .map id, .int _ n => match H[id]? with | some (.mp es (some c)) => H.set id (.mp (es.modify (n - c).toNat fun e => (e.1, x)) (some c)) | _ => H
  | _, _ => H
theorem findIdx_born {l : List Nat} {c n : Nat} {j : Nat} (hl : l = List.range' c n) (hj : j < n) : l.findIdx? (fun b : Nat => ((b : Int) == ((c + j : Nat) : Int))) = some j := by
  subst hl
  rw [List.findIdx?_eq_some_iff_getElem]
  refine ⟨by simpa using hj, by simp, fun k hk => ?_⟩
  simp
  omega
theorem es_run {P : Program} {w0 : Bs} {Γ : Gh} {H : List HO} {w : World} {t : TypeId} {m s x : AV} {vm vs vx : Value} (hr : R w0 Γ H w) (hs : esS m s H) (hm : VR Γ m vm) (hk : VR Γ s vs) (hx : VR Γ x vx) :
    ∃ w', (Instr.entryStore t vm vs vx).run P w = .ok () w' ∧ R w0 Γ (esH m s x H) w' := by
  unfold esS at hs
  unfold esH
  split at hs
  · rename_i id q n
    split at hs
    · rename_i es c hi
      try simp only [hi]
      cases hk
      cases hm with
      | @map _ b hB =>
      obtain ⟨ents, clock, h1, h2, hcl⟩ := hr.mp hi hB
      obtain ⟨c1, c2⟩ := hcl c rfl
      obtain ⟨j, hj⟩ : ∃ j : Nat, j = (n - c).toNat := ⟨_, rfl⟩
      have hn : n = ((c + j : Nat) : Int) := by omega
      have hjl : j < es.length := by omega
      rw [← hj]
      have hf : ents.findIdx? (fun e => (e.born : Int) == n) = some j := by
        have := findIdx_born c2 hjl
        rw [List.findIdx?_map] at this
        rw [hn, show ents = ents.toList.toArray by simp, List.findIdx?_toArray]
        exact this
      have hjl' : j < ents.toList.length := by rw [← h2.length]; exact hjl
      have g2 : ents.toList[j]? = some ents.toList[j] := List.getElem?_eq_getElem hjl'
      generalize hen : ents.toList[j] = en at g2
      have g2' : ents[j]? = some en := by rw [← Array.getElem?_toList]; exact g2
      have hmod : (ents.modify j fun e => { e with val := vx }).toList = ents.toList.set j { en with val := vx } := by
        apply List.ext_getElem?
        intro i
        rw [Array.getElem?_toList, Array.getElem?_modify]
        by_cases e : j = i
        · subst e
          rw [if_pos rfl, List.getElem?_set_self (List.getElem?_eq_some_iff.1 g2).1, g2']; rfl
        · rw [if_neg e, List.getElem?_set_ne e, Array.getElem?_toList]
      have ge : es[j]? = some es[j] := List.getElem?_eq_getElem hjl
      have hemod : (es.modify j fun e => (e.1, x)) = es.set j (es[j].1, x) := by
        apply List.ext_getElem?
        intro i
        rw [List.getElem?_modify]
        by_cases e : j = i
        · subst e
          rw [List.getElem?_set_self hjl, ge]; simp
        · rw [List.getElem?_set_ne e]; simp [e]
      obtain ⟨en', k1, k2, _⟩ := h2.get j _ ge
      rw [g2] at k1; cases k1
      refine ⟨putO w b (.map (ents.modify j fun e => { e with val := vx }) clock), ?_, ?_⟩
      · simp only [Instr.entryStore, Sem.run_bind, run_getObj' h1, Result.andThen_ok, asInt, asIntOf, Sem.run_pure, hf]
        exact run_setObj' _ h1
      · refine hr.putMp hi hB ?_ ?_
        · rw [hmod, hemod]
          exact VRm.set (e := { en with val := vx }) k2 hx j h2
        · intro q hq
          have hb := born_set (e' := { en with val := vx }) g2 rfl
          rw [hmod, hb, hemod, List.length_set]
          exact hcl q hq
    · exact hs.elim
  · exact hs.elim

/-! #### a key goes -/
def delS (P : Program) (t : TypeId) (m k : AV) (H : List HO) : Prop := muS P t m k H
def delH (m k : AV) (H : List HO) : List HO :=
  match m with
  | .map id => match H[id]? with | some (.mp es c) => (match findK k es 0 with | some (i, _) => H.set id (.mp (es.eraseIdx i) none) | none => H) | _ => H
  | _ => H
theorem del_run {P : Program} {w0 : Bs} {Γ : Gh} {H : List HO} {w : World} {t t' ty : TypeId} {m k : AV} {vm vk : Value} (hr : R w0 Γ H w) (hs : delS P t m k H) (hm : VR Γ m vm) (hk : VR Γ k vk) :
    ∃ w', (Builtin.delete_ #[t, t'] ty #[vm, vk]).run P w = .ok (.tuple #[]) w' ∧ R w0 Γ (delH m k H) w' := by
  unfold delS muS at hs
  unfold delH
  split at hs
  · rename_i kt z id hmo
    obtain ⟨e, hu, hz⟩ := mapOf_some hmo
    split at hs
    · rename_i es c hi
      try simp only [hi]
      cases hm with
      | @map _ b hB =>
      obtain ⟨ents, clock, h1, h2, hcl⟩ := hr.mp hi hB
      obtain ⟨r, h3, h4⟩ := findKey_ok (P := P) hs hk h2 w
      have hck := keyT_check (P := P) hs.1 hk ents.isEmpty w
      split at h4
      · rename_i hf
        subst h4
        rw [hf]
        refine ⟨putO w b (.map ents clock), ?_, ?_⟩
        · simp [Builtin.delete_, run_underlying' hu, run_getObj' h1, hck, h3, run_setObj' _ h1]
        · have := hr.putMp hi hB (es' := es) (c' := c) h2 hcl
          rwa [set_same hi] at this
      · rename_i j v hf
        obtain ⟨vv, rfl, hvv, e0, en, g1, g2, _⟩ := h4
        rw [hf]
        refine ⟨putO w b (.map (ents.eraseIdxIfInBounds j) clock), ?_, ?_⟩
        · simp [Builtin.delete_, run_underlying' hu, run_getObj' h1, hck, h3, run_setObj' _ h1]
        · refine hr.putMp hi hB ?_ (fun q hq => by cases hq)
          have : (ents.eraseIdxIfInBounds j).toList = ents.toList.eraseIdx j := by simp
          rw [this]
          exact h2.erase j
    · exact hs.elim
  · exact hs.elim

/-! #### a new one -/
theorem mm_run {P : Program} {w0 : Bs} {Γ : Gh} {H : List HO} {w : World} {t : TypeId} (hr : R w0 Γ H w) :
    ∃ Γ' v w', (Instr.makeMap t none).run P w = .ok v w' ∧ Gh.Le Γ Γ' ∧ VR Γ' (.map H.length) v ∧ R w0 Γ' (H ++ [.mp [] (some 0)]) w' := by
  refine ⟨_, .map (some w.heap.size), w.alloc (.map #[] 0), ?_, Gh.le_addB (hr.fresh _ (Nat.le_refl _)).1, .map (by simp [Gh.addB]), hr.newMap⟩
  simp [Instr.makeMap]

/-! #### one by one -/
def mapT (P : Program) (t : TypeId) : Prop := match P.underlying t with | some (.map _ _) => True | _ => False
def rgK (P : Program) (t : TypeId) (id : Nat) (o : Option HO) (H : List HO) (K : AV → List HO → Prop) : Prop :=
  match o with
  | some (.mp es (some k)) => mapT P t ∧ K (.ptr H.length 0) (H ++ [.it id k es.length []])
  | _ => False
def rangeK (P : Program) (t : TypeId) (x : AV) (H : List HO) (K : AV → List HO → Prop) : Prop := match x with | .map id => rgK P t id H[id]? H K | _ => False
def nx2K (i m k n : Nat) (seen : List Nat) (o : Option HO) (H : List HO) (K : AV → List HO → Prop) : Prop :=
  match o with
  | some (.mp es c) => c = some k ∧ es.length = n ∧ ((∀ j, j < n → j ∈ seen) → K (.tup [.bool false]) H) ∧ ∀ j e, es[j]? = some e → j ∉ seen → K (.tup [.bool true, e.1, e.2]) (H.set i (.it m k n (seen ++ [j])))
  | _ => False
def nxK (i : Nat) (o : Option HO) (H : List HO) (K : AV → List HO → Prop) : Prop := match o with | some (.it m k n seen) => nx2K i m k n seen H[m]? H K | _ => False
def nextK (d s : Bool) (x : AV) (H : List HO) (K : AV → List HO → Prop) : Prop := d = false ∧ s = false ∧ match x with | .ptr i 0 => nxK i H[i]? H K | _ => False
def en2K (k n : Nat) (seen : List Nat) (o : Option HO) (H : List HO) (K : AV → List HO → Prop) : Prop :=
  match o with
  | some (.mp es c) => c = some k ∧ es.length = n ∧ ∃ s j e, seen = s ++ [j] ∧ es[j]? = some e ∧ K (.tup [e.1, e.2]) H
  | _ => False
def enK (o : Option HO) (H : List HO) (K : AV → List HO → Prop) : Prop := match o with | some (.it m k n seen) => en2K k n seen H[m]? H K | _ => False
def entryK (d : Bool) (x : AV) (H : List HO) (K : AV → List HO → Prop) : Prop := d = false ∧ match x with | .ptr i 0 => enK H[i]? H K | _ => False

theorem R.it {w0 : Bs} {Γ : Gh} {H : List HO} {w : World} (hr : R w0 Γ H w) {i b m k n : Nat} {seen : List Nat} (hi : H[i]? = some (.it m k n seen)) (hB : Γ.B i = some b) :
    ∃ mb sa, Γ.B m = some mb ∧ w.heap[b]? = some (.mapIter (some mb) (k + n) sa (k + n)) ∧ sa.toList = seen.map (k + ·) := by
  obtain ⟨bs, hobj, _⟩ := hr.obj
  obtain ⟨_, h1, h2, _⟩ := hobj i _ hi rfl
  rw [hB] at h1
  cases h1
  exact h2
theorem rg_run {P : Program} {w0 : Bs} {Γ : Gh} {H : List HO} {w : World} {t : TypeId} {id k : Nat} {es : List (AV × AV)} {u : Value} (hr : R w0 Γ H w) (ht : mapT P t) (hi : H[id]? = some (.mp es (some k))) (hx : VR Γ (.map id) u) :
    ∃ Γ' v w', (Instr.range t u).run P w = .ok v w' ∧ Gh.Le Γ Γ' ∧ VR Γ' (.ptr H.length 0) v ∧ R w0 Γ' (H ++ [.it id k es.length []]) w' := by
  cases hx with
  | @map _ b hB =>
  obtain ⟨ents, clock, h1, h2, h3⟩ := hr.mp hi hB
  obtain ⟨h3, h4⟩ := h3 k rfl
  unfold mapT at ht
  split at ht
  · rename_i kt e hu
    have le := Gh.le_addB (b := w.heap.size) (hr.fresh H.length (Nat.le_refl _)).1
    refine ⟨_, .pointer (some ⟨w.heap.size, 0, none⟩), w.alloc (.mapIter (some b) clock #[] clock), ?_, le, .ptr (by simp [Gh.addB]), ?_⟩
    · simp [Instr.range, run_underlying' hu, run_getObj' h1]
    · refine hr.push _ w.heap.size (below_alloc w _) le (Nat.le_refl _) ?_ (fun c o v h => .inl h) (fun i hi => by simp [Gh.addB, hi]) (fun i hi => rfl) rfl
      intro _
      exact ⟨by simp [Gh.addB], ⟨b, #[], le.B _ _ hB, by rw [h3]; exact heap_new w _, rfl⟩, fun o => hr.noI o⟩
  · exact ht.elim
theorem nx_run {P : Program} {w0 : Bs} {Γ : Gh} {H : List HO} {w : World} {ty : TypeId} {i m k n : Nat} {seen : List Nat} {es : List (AV × AV)} {K : AV → List HO → Prop} {u : Value} (hr : R w0 Γ H w) (hi : H[i]? = some (.it m k n seen)) (hm : H[m]? = some (.mp es (some k))) (hn : es.length = n)
    (h1 : (∀ j, j < n → j ∈ seen) → K (.tup [.bool false]) H) (h2 : ∀ j e, es[j]? = some e → j ∉ seen → K (.tup [.bool true, e.1, e.2]) (H.set i (.it m k n (seen ++ [j])))) (hx : VR Γ (.ptr i 0) u) :
    ∃ v w' r H', (Instr.next u false ty).run P w = .ok v w' ∧ VR Γ r v ∧ R w0 Γ H' w' ∧ K r H' := by
  cases hx with
  | @ptr _ _ b hB =>
  obtain ⟨mb, sa, g1, g2, g3⟩ := hr.it hi hB
  obtain ⟨ents, clock, k1, k2, k3⟩ := hr.mp hm g1
  obtain ⟨k3, k4⟩ := k3 k rfl
  have hlen : es.length = ents.size := by rw [k2.length]; simp
  have born : ∀ (j : Nat) (x : MapEntry), ents.toList[j]? = some x → x.born = k + j := by
    intro j x hj
    have h := congrArg (fun l : List Nat => l[j]?) k4
    have hjl : j < es.length := by rw [k2.length]; exact (List.getElem?_eq_some_iff.1 hj).1
    simp only [List.getElem?_map, hj, Option.map_some, List.getElem?_range' hjl] at h
    simpa using h
  have hold : ∀ x ∈ ents.toList, x.born < k + n := by
    intro x hx
    obtain ⟨j, hj⟩ := List.getElem?_of_mem hx
    have := born j x hj
    have := (List.getElem?_eq_some_iff.1 hj).1
    rw [← k2.length] at this
    omega
  have inS : ∀ j, sa.contains (k + j) = true ↔ j ∈ seen := by
    intro j
    rw [← Array.contains_toList, g3, List.contains_iff_mem, List.mem_map]
    constructor
    · rintro ⟨a, ha, e⟩
      have : a = j := by omega
      rw [← this]; exact ha
    · intro h
      exact ⟨j, h, rfl⟩
  rcases run_next_at (P := P) w ty b mb (k + n) (k + n) sa ents clock g2 k1 hold (Nat.le_refl _) with ⟨e0, hrun⟩ | ⟨x, hxm, w1, hw1, hrun⟩
  · refine ⟨_, w, _, H, hrun, .tup (.cons (.bool _) .nil), hr, h1 ?_⟩
    intro j hj
    rw [← inS]
    have hjl : j < ents.toList.length := by rw [← k2.length]; omega
    cases hc : sa.contains (k + j) with
    | true => rfl
    | false =>
      exfalso
      have hb := born j ents.toList[j] (List.getElem?_eq_getElem hjl)
      have : ents.toList[j] ∈ leftOf ents sa := by
        unfold leftOf
        rw [Array.mem_filter]
        exact ⟨by simp, by rw [hb, hc]; rfl⟩
      rw [Array.eq_empty_of_size_eq_zero e0] at this
      simp at this
  · unfold leftOf at hxm
    have hxm' : x ∈ ents.toList ∧ sa.contains x.born = false := by
      simp at hxm
      exact ⟨by simpa using hxm.1, by simpa using hxm.2⟩
    obtain ⟨j, hj⟩ := List.getElem?_of_mem hxm'.1
    have hbj := born j x hj
    have hjl := (List.getElem?_eq_some_iff.1 hj).1
    rw [← k2.length] at hjl
    obtain ⟨en, q1, q2, q3⟩ := k2.get j es[j] (List.getElem?_eq_getElem hjl)
    rw [hj] at q1
    cases q1
    have hns : j ∉ seen := by rw [← inS, ← hbj, hxm'.2]; simp
    refine ⟨_, _, _, _, hrun, .tup (.cons (.bool _) (.cons q2 (.cons q3 .nil))), ?_, h2 j es[j] (List.getElem?_eq_getElem hjl) hns⟩
    have hr1 : R w0 Γ H w1 := by
      rcases hw1 with rfl | rfl
      · exact hr
      · exact hr.drew (Below.refl _ _).drew
    have hh1 : w1.heap = w.heap := by rcases hw1 with rfl | rfl <;> rfl
    obtain ⟨b', hb0, hbl, hat, hput⟩ := hr1.put hi rfl
    obtain ⟨hB', _, hI⟩ := hat
    rw [hB] at hB'; cases hB'
    refine hput _ b Γ _ (grownBy_putObj w1 b _) (Gh.Le.refl Γ) (.inl rfl) (fun _ => ⟨hB, ⟨mb, sa.push x.born, g1, ?_, ?_⟩, hI⟩) ?_ (fun _ => rfl) (fun _ _ => rfl) rfl
    · have : clock = k + n := by omega
      rw [this]
      exact putObj_same (w := w1) (b := b) (by rw [hh1]; exact g2)
    · simp [g3, hbj]
    · intro c o v h
      refine .inl ⟨h, ?_⟩
      rintro rfl
      rw [hI] at h; cases h
theorem en_run {P : Program} {w0 : Bs} {Γ : Gh} {H : List HO} {w : World} {i m k n j : Nat} {s : List Nat} {es : List (AV × AV)} {e : AV × AV} {u : Value} (hr : R w0 Γ H w) (hi : H[i]? = some (.it m k n (s ++ [j]))) (hm : H[m]? = some (.mp es (some k))) (hn : es.length = n)
    (he : es[j]? = some e) (hx : VR Γ (.ptr i 0) u) : ∃ v, (Instr.entry u).run P w = .ok v w ∧ VR Γ (.tup [e.1, e.2]) v := by
  cases hx with
  | @ptr _ _ b hB =>
  obtain ⟨mb, sa, g1, g2, g3⟩ := hr.it hi hB
  obtain ⟨ents, clock, k1, k2, k3⟩ := hr.mp hm g1
  obtain ⟨k3, k4⟩ := k3 k rfl
  obtain ⟨en, q1, q2, q3⟩ := k2.get j e he
  have hjl : j < es.length := (List.getElem?_eq_some_iff.1 he).1
  have hb : en.born = k + j := by
    have h := congrArg (fun l : List Nat => l[j]?) k4
    simp only [List.getElem?_map, q1, Option.map_some, List.getElem?_range' hjl] at h
    simpa using h
  have hsa : sa = (s.map (k + ·)).toArray.push en.born := by
    apply Array.ext'
    rw [g3, hb]; simp
  have hnd : (ents.toList.map (·.born)).Nodup := by rw [k4]; exact List.nodup_range'
  have hclock : clock = k + n := by omega
  rw [hsa] at g2
  have := run_entry_at (P := P) w b mb (k + n) (s.map (k + ·)).toArray ents clock en (by rw [hclock]; exact g2) k1 (List.mem_of_getElem? q1) hnd
  exact ⟨_, this, .tup (.cons q2 (.cons q3 .nil))⟩
end Go.Proofs.YtjplcdeaedflpaaGreatDoor.PL

namespace Go.Proofs.YtjplcdeaedflpaaGreatDoor.PL
open Go.RowKit

/-! ### rows: made, copied to, cleared -/
theorem repeatV_take (z : List Value) : ∀ (n m : Nat), n ≤ m → (repeatV z m).take (n * z.length) = repeatV z n
  | 0, m, _ => by simp [repeatV]
  | n + 1, 0, h => by omega
  | n + 1, m + 1, h => by
    rw [repeatV, repeatV, Nat.add_mul, Nat.one_mul, Nat.add_comm, List.take_append, List.take_of_length_le (by omega), Nat.add_sub_cancel_left, repeatV_take z n m (by omega)]

def mkS (P : Program) (t : TypeId) (l c : AV) : Prop :=
  match l, c with
  | .int _ l, .int _ c => 0 ≤ l ∧ l ≤ c ∧ match litOf P t with
    | some (_, sz, zs) => zs.length = sz ∧ appT P t t c.toNat 0 sz
    | none => False
  | _, _ => False
def zsA (P : Program) (t : TypeId) : List AV := match litOf P t with | some (_, _, zs) => zs | none => []
def intN (x : AV) : Nat := match x with | .int _ n => n.toNat | _ => 0
def mkV (P : Program) (t : TypeId) (l : AV) (H : List HO) : AV := .mv H.length (intN l) (szA P t) 0 (intN l)
def mkH (P : Program) (t : TypeId) (l : AV) (H : List HO) : List HO := H ++ [.row (intN l) (szA P t) (repeatA (zsA P t) (intN l))]
theorem mk_run {P : Program} {w0 : Bs} {Γ : Gh} {H : List HO} {w : World} {t : TypeId} {l c : AV} {vl vc : Value} (hr : R w0 Γ H w) (hs : mkS P t l c) (hl : VR Γ l vl) (hc : VR Γ c vc) :
    ∃ Γ' v w', (Instr.makeSlice t vl vc).run P w = .ok v w' ∧ Gh.Le Γ Γ' ∧ VR Γ' (mkV P t l H) v ∧ R w0 Γ' (mkH P t l H) w' := by
  unfold mkS at hs
  split at hs
  · rename_i kl l kc c
    obtain ⟨h0, h1, hs⟩ := hs
    cases hl; cases hc
    split at hs
    · rename_i b sz zs hlit
      obtain ⟨hzl, ht⟩ := hs
      obtain ⟨_, rfl, e, hty⟩ := ht.row
      obtain ⟨hu, i, zv, hi, hsz, hzv, hzs, hby⟩ := hty.zero
      obtain ⟨e', z, hu', ha, hn, hz, rfl⟩ := litOf_some hlit
      rw [hu] at hu'; cases hu'
      have hzz : ∀ Γ, VRs Γ z.cells zv.cells.toList ∧ AV.ones z.cells := by
        intro Γ
        obtain ⟨z', by', hz', _, hz1, _⟩ := hty.fits
        rw [hz] at hz'; cases hz'
        have : VR Γ z zv := by
          unfold zOf at hz
          obtain ⟨zv', k1, k2⟩ := Option.map_eq_some_iff.1 hz
          rw [hi] at k1
          simp only [Option.bind_some] at k1
          rw [hzv] at k1; cases k1
          exact k2 ▸ VR.ofVal Γ zv
        exact ⟨zcells (P := P) (t := e) hz hz1 Γ this, fun x hx => List.all_eq_true.1 hz1 x hx⟩
      have hpos := hty.pos
      rw [Nat.add_zero] at hby
      have hmax := hty.max
      have hbytes : (i.bytes : Int) * c ≤ 281474976710656 := by
        have e1 : c = (c.toNat : Int) := by omega
        rw [e1, ← Int.natCast_mul, Nat.mul_comm]
        omega
      have hrun := run_make (P := P) w t e i zv hu hi hzv kl kc l c h0 h1 hbytes (by simp only [maxLen] at hmax; omega)
      have hcells : madeCells zv.cells (c.toNat * i.size) = (repeatV zv.cells.toList c.toNat).toArray := by
        unfold madeCells
        rw [hsz, ← hzs]
        exact zero_cells zv.cells c.toNat (by omega)
      rw [hcells] at hrun
      have hTf : ∀ q, Γ.T H.length q = none := (hr.fresh _ (Nat.le_refl _)).2
      have hln : zv.cells.toList.length = szA P t := by rw [Array.length_toList, hzs]
      have hh : (w.alloc (.cells (repeatV zv.cells.toList c.toNat).toArray e)).heap[w.heap.size]? = some (.cells (repeatV zv.cells.toList c.toNat).toArray e (0, 0)) := heap_new w _
      have le := Gh.le_addV (Γ := Γ) (p := (w.heap.size, c.toNat)) (hTf l.toNat)
      refine ⟨_, _, _, hrun, le, ?_, ?_⟩
      · unfold mkV intN
        dsimp only
        exact .mv (cap := c.toNat) (by simp [Gh.addV]) (by omega) (by omega) (fun _ => by rw [Nat.zero_mul])
      · unfold mkH intN
        dsimp only
        refine hr.push _ w.heap.size (below_alloc w _) le (Nat.le_refl _) (fun _ => row_at_new (fun o => hr.noI o) (fun q _ => hTf q) (hTf _) hh ?_ hmax (by omega) (vs := repeatV zv.cells.toList l.toNat) ?_ ?_ ?_) (fun _ _ _ h => .inl h) (fun _ _ => rfl) (fun j hj => by funext q; simp [Gh.addV, hj]) rfl
        · simp only [List.size_toArray]
          rw [repeatV_len, hln]
        · have := repeatV_take zv.cells.toList l.toNat c.toNat (by omega)
          rw [hln] at this
          exact this
        · simp only [zsA, hlit]
          exact repeat_VRs (hzz Γ).1 _
        · simp only [zsA, hlit]
          exact repeatA_ones (hzz Γ).2 _
    · exact hs.elim
  · exact hs.elim

/-- cells put into a row, from one of its elements on -/
theorem put_cells {P : Program} {w0 : Bs} {Γ : Gh} {H : List HO} {w : World} {id n sz off m cap o b : Nat} {cs xs : List AV} {vs : List Value} (hr : R w0 Γ H w) (hi : H[id]? = some (.row n sz cs)) (hT : Γ.T id n = some (b, cap)) (hle : off + m ≤ n) (ho : off < cap → o = off * sz)
    (hv : VRs Γ xs vs) (h1 : AV.ones xs) (hl : vs.length = m * sz) : ∃ w', (storeCells ⟨b, o, none⟩ vs).run P w = .ok () w' ∧ R w0 Γ (H.set id (.row n sz (splice cs (off * sz) xs))) w' := by
  obtain ⟨b', hb0, hbl, hat, hput⟩ := hr.put hi rfl
  obtain ⟨⟨cap', cur, e, hT', hw, hsz, hmax, hnc, hvs⟩, hones, hI, hTn⟩ := hat
  rw [hT] at hT'
  simp only [Option.some.injEq, Prod.mk.injEq] at hT'
  obtain ⟨rfl, rfl⟩ := hT'
  have hcl : n * sz ≤ cur.toList.length := by rw [Array.length_toList, hsz]; exact Nat.mul_le_mul_right _ hnc
  have hlen := hvs.length
  rw [List.length_take, Nat.min_eq_left hcl] at hlen
  have hxl : xs.length = vs.length := hv.length
  have hle2 : off * sz + m * sz ≤ n * sz := by rw [← Nat.add_mul]; exact Nat.mul_le_mul_right _ hle
  by_cases h0 : vs = []
  · subst h0
    have : xs = [] := List.eq_nil_of_length_eq_zero hxl
    subst this
    refine ⟨w, by simp [storeCells], ?_⟩
    have : splice cs (off * sz) [] = cs := by simp [splice]
    rw [this, set_same hi]
    exact hr
  · have hm : 0 < m := Nat.pos_of_ne_zero (fun e => h0 (List.eq_nil_of_length_eq_zero (by rw [hl, e, Nat.zero_mul])))
    have ho := ho (by omega)
    subst ho
    have hst := run_storeCells_at (P := P) b (off * sz) e vs 0 cur w hw (by simp only [Nat.add_zero]; rw [Array.length_toList] at hcl; omega) (fun c hc => hv.one h1 c hc)
    simp only [Nat.add_zero] at hst
    refine ⟨w.setRow b (cur.toList.take (off * sz) ++ vs ++ cur.toList.drop (off * sz + vs.length)).toArray, hst, ?_⟩
    refine hput _ b Γ _ (grownBy_setRow w b _) (Gh.Le.refl Γ) (.inl rfl) ?_ ?_ (fun _ => rfl) (fun _ _ => rfl) rfl
    · intro _
      refine ⟨⟨cap, _, e, hT, setRow_heap w b cur _ e (0, 0) hw, ?_, hmax, hnc, ?_⟩, ?_, hI, hTn⟩
      · rw [← hsz]
        simp
        rw [Array.length_toList] at hcl
        omega
      · show VRs Γ (splice cs (off * sz) xs) ((splice cur.toList (off * sz) vs).take (n * sz))
        rw [splice_take (by omega) hcl]
        unfold splice
        rw [hxl]
        exact ((hvs.take _).append hv).append (hvs.drop _)
      · intro y hy
        simp only [splice, List.mem_append] at hy
        rcases hy with (hy | hy) | hy
        · exact hones y (List.mem_of_mem_take hy)
        · exact h1 y hy
        · exact hones y (List.mem_of_mem_drop hy)
    · intro c o v h
      refine .inl ⟨h, ?_⟩
      rintro rfl
      rw [hI] at h; cases h

def cpN (x y : AV) : Nat := match x with | .mv _ _ _ _ len => Nat.min (srcN y) len | _ => 0
def cpS (P : Program) (t : TypeId) (x y : AV) (H : List HO) : Prop :=
  match x with
  | .mv id n sz _ _ => szA P t = sz ∧ sz ≠ 0 ∧ srcS y H sz ∧ match H[id]? with | some (.row n' sz' _) => n' = n ∧ sz' = sz | _ => False
  | _ => False
def cpV (x y : AV) : AV := .int .i64 (cpN x y)
def cpH (x y : AV) (H : List HO) : List HO :=
  match x with
  | .mv id n sz off _ => match H[id]? with | some (.row _ _ cs) => H.set id (.row n sz (splice cs (off * sz) ((srcC y H).take (cpN x y * sz)))) | _ => H
  | _ => H
theorem szA_some {P : Program} {t sz : Nat} (h : szA P t = sz) (h0 : sz ≠ 0) : ∃ e, slOf P t = some (e, sz) := by
  unfold szA at h
  split at h
  · rename_i e sz' hs; subst h; exact ⟨e, hs⟩
  · exact absurd h.symm h0
theorem cp_run {P : Program} {w0 : Bs} {Γ : Gh} {H : List HO} {w : World} {t t' ty : TypeId} {x y : AV} {vx vy : Value} (hr : R w0 Γ H w) (hs : cpS P t x y H) (hx : VR Γ x vx) (hy : VR Γ y vy) :
    ∃ v w', (Builtin.copy_ #[t, t'] ty #[vx, vy]).run P w = .ok v w' ∧ VR Γ (cpV x y) v ∧ R w0 Γ (cpH x y H) w' := by
  unfold cpS at hs
  unfold cpH cpV
  split at hs
  · rename_i id n sz off len
    obtain ⟨hsz, h0, hsrc, hi⟩ := hs
    obtain ⟨e, hsl⟩ := szA_some hsz h0
    obtain ⟨hu, hszo⟩ := slOf_some hsl
    split at hi
    · rename_i n' sz' cs hi'
      obtain ⟨rfl, rfl⟩ := hi
      try rw [hi']
      try dsimp only
      obtain ⟨a2, cap2, vs, rfl, hc2, hv2, ho2, hl2, hA2⟩ := src_run (P := P) hr hsrc hy
      cases hx with
      | @mv _ _ _ _ _ b cap o hT hle hnc hoo =>
        simp only [cpN]
        have hk : Nat.min (srcN y) len ≤ srcN y := Nat.min_le_left _ _
        have hk2 : Nat.min (srcN y) len ≤ len := Nat.min_le_right _ _
        generalize hm : Nat.min (srcN y) len = m at *
        have hf := first_k (P := P) (w := w) (cap := cap2) hk hl2 hA2
        have hks : m * sz' ≤ srcN y * sz' := Nat.mul_le_mul_right _ hk
        obtain ⟨w', k1, k2⟩ := put_cells (P := P) hr hi' hT (off := off) (m := m) (by omega) hoo (hv2.take (m * sz')) (fun x hx => ho2 x (List.mem_of_mem_take hx)) (by rw [List.length_take]; omega)
        refine ⟨.int .i64 m, w', ?_, .int _ _, k2⟩
        simp [Builtin.copy_, run_underlying' hu, Builtin.lenOf, hm, run_sizeOf' hszo, hf, k1, goInt]
    · exact hi.elim
  · exact hs.elim

def clS (P : Program) (t : TypeId) (x : AV) (H : List HO) : Prop :=
  match x with
  | .mv id n sz _ _ => szA P t = sz ∧ sz ≠ 0 ∧ (match litOf P t with | some (_, _, zs) => zs.length = sz ∧ zs.all AV.one = true | none => False) ∧ match H[id]? with | some (.row n' sz' _) => n' = n ∧ sz' = sz | _ => False
  | .map id => (match P.underlying t with | some (.map _ _) => True | _ => False) ∧ match H[id]? with | some (.mp _ _) => True | _ => False
  | _ => False
def clH (P : Program) (t : TypeId) (x : AV) (H : List HO) : List HO :=
  match x with
  | .mv id n sz off len => match H[id]? with | some (.row _ _ cs) => H.set id (.row n sz (splice cs (off * sz) (repeatA (zsA P t) len))) | _ => H
  | .map id => match H[id]? with | some (.mp es c) => H.set id (.mp [] (c.map (· + es.length))) | _ => H
  | _ => H
theorem zeroCells_eq (z : Array Value) (n : Nat) (hz : 0 < z.size) : (Builtin.zeroCells z n).toList = repeatV z.toList n := by
  unfold Builtin.zeroCells
  have := zero_cells z n hz
  simpa using congrArg Array.toList this
theorem cl_run {P : Program} {w0 : Bs} {Γ : Gh} {H : List HO} {w : World} {t ty : TypeId} {x : AV} {vx : Value} (hr : R w0 Γ H w) (hs : clS P t x H) (hx : VR Γ x vx) :
    ∃ w', (Builtin.clear_ #[t] ty #[vx]).run P w = .ok (.tuple #[]) w' ∧ R w0 Γ (clH P t x H) w' := by
  unfold clS at hs
  unfold clH
  split at hs
  · rename_i id n sz off len
    obtain ⟨hsz, h0, hlit, hi⟩ := hs
    obtain ⟨e, hsl⟩ := szA_some hsz h0
    obtain ⟨hu, hszo⟩ := slOf_some hsl
    split at hlit
    · rename_i bb sz2 zs hlit'
      obtain ⟨hzl, hz1⟩ := hlit
      obtain ⟨e', z, hu', ha, hn, hz, rfl⟩ := litOf_some hlit'
      rw [hu] at hu'; cases hu'
      obtain ⟨zv, hzr, hzv⟩ := zOf_run hz w
      have hzc := zcells (P := P) (t := e) hz hz1 Γ (hzv Γ)
      have hzs : zv.cells.size = sz := by rw [← Array.length_toList, ← hzc.length, hzl]
      split at hi
      · rename_i n' sz' cs hi'
        obtain ⟨rfl, rfl⟩ := hi
        try rw [hi']
        try dsimp only
        cases hx with
        | @mv _ _ _ _ _ b cap o hT hle hnc hoo =>
          simp only [zsA, hlit']
          cases len with
          | zero =>
            refine ⟨w, by simp [Builtin.clear_, run_underlying' hu], ?_⟩
            have : splice cs (off * sz') (repeatA z.cells 0) = cs := by simp [splice, repeatA]
            rw [this, set_same hi']
            exact hr
          | succ len =>
            obtain ⟨w', k1, k2⟩ := put_cells (P := P) hr hi' hT (off := off) (m := len + 1) (by omega) hoo (repeat_VRs hzc (len + 1)) (repeatA_ones (fun x hx => List.all_eq_true.1 hz1 x hx) _) (by rw [repeatV_len, Array.length_toList, hzs])
            refine ⟨w', ?_, k2⟩
            rw [← zeroCells_eq _ _ (by omega)] at k1
            simp [Builtin.clear_, run_underlying' hu, hzr, k1]
      · exact hi.elim
    · exact hlit.elim
  · rename_i id
    obtain ⟨hu, hi⟩ := hs
    split at hu
    · rename_i k e hu'
      split at hi
      · rename_i es c hi'
        try rw [hi']
        try dsimp only
        cases hx with
        | @map _ b hB =>
        obtain ⟨ents, clock, h1, h2, hcl⟩ := hr.mp hi' hB
        refine ⟨putO w b (.map #[] clock), by simp [Builtin.clear_, run_underlying' hu', run_getObj' h1, run_setObj' _ h1], hr.putMp hi' hB .nil ?_⟩
        intro q hq
        obtain ⟨q0, hq0, rfl⟩ := Option.map_eq_some_iff.1 hq
        obtain ⟨g1, _⟩ := hcl q0 hq0
        exact ⟨by simp [g1], by simp⟩
      · exact hi.elim
    · exact hu.elim
  · exact hs.elim
end Go.Proofs.YtjplcdeaedflpaaGreatDoor.PL

namespace Go.Proofs.YtjplcdeaedflpaaGreatDoor.PL
open Go.RowKit

/-! ### operations that write, or read what is written, each with one outcome -/
def app2 {α : Type} (xs : List AV) (f : AV → AV → α) (d : α) : α := match xs with | [x, y] => f x y | _ => d
def app1 {α : Type} (xs : List AV) (f : AV → α) (d : α) : α := match xs with | [x] => f x | _ => d
/-- which results of append are to be rows -/
def rowM (M : List Nat) (d : Option Nat) : Bool := match d with | some d => M.contains d | none => false
def xS (P : Program) (b : Bool) (op : Op) (E : Ev) (H : List HO) : Prop :=
  match op with
  | .call { callee := .builtin .append, args := xs, argTypes := ts } => match ts.toList with
    | [t, t'] => app2 (xs.toList.map E) (fun x y => appS P t t' b x.ex y H) False
    | _ => False
  | .call { callee := .builtin .copy, args := xs, argTypes := ts } => match ts.toList with
    | [t, _] => app2 (xs.toList.map E) (fun x y => cpS P t x y H) False
    | _ => False
  | .call { callee := .builtin .clear, args := xs, argTypes := ts } => match ts.toList with
    | [t] => app1 (xs.toList.map E) (fun x => clS P t x H) False
    | _ => False
  | .call { callee := .builtin .delete, args := xs, argTypes := ts } => match ts.toList with
    | [t, _] => app2 (xs.toList.map E) (fun x y => delS P t x y H) False
    | _ => False
  | .makeSlice t l c => mkS P t (E l) (E c)
  | .makeMap _ none => True
  | .lookup t m k _ => lkS P t (E m) (E k) H
  | .mapUpdate t m k _ => muS P t (E m) (E k) H
  | .insert t m k _ => muS P t (E m) (E k) H
  | .mapEntry t m k => meS P t (E m) (E k) H
  | .entryStore _ m s _ => esS (E m) (E s) H
  | _ => False
def xV (P : Program) (b : Bool) (op : Op) (E : Ev) (H : List HO) : AV :=
  match op with
  | .call { callee := .builtin .append, args := xs, argTypes := ts } => match ts.toList with
    | [t, _] => app2 (xs.toList.map E) (fun x y => appV P t b x.ex y H) .any
    | _ => .any
  | .call { callee := .builtin .copy, args := xs, .. } => app2 (xs.toList.map E) (fun x y => cpV x y) .any
  | .makeSlice t l _ => mkV P t (E l) H
  | .makeMap _ none => .map H.length
  | .lookup t m k ok => lkV P t (E m) (E k) ok H
  | .mapEntry t m k => meV P t (E m) (E k) H
  | _ => .any
def xH (P : Program) (b : Bool) (op : Op) (E : Ev) (H : List HO) : List HO :=
  match op with
  | .call { callee := .builtin .append, args := xs, argTypes := ts } => match ts.toList with
    | [t, _] => app2 (xs.toList.map E) (fun x y => appH P t b x.ex y H) H
    | _ => H
  | .call { callee := .builtin .copy, args := xs, .. } => app2 (xs.toList.map E) (fun x y => cpH x y H) H
  | .call { callee := .builtin .clear, args := xs, argTypes := ts } => match ts.toList with
    | [t] => app1 (xs.toList.map E) (fun x => clH P t x H) H
    | _ => H
  | .call { callee := .builtin .delete, args := xs, .. } => app2 (xs.toList.map E) (fun x y => delH x y H) H
  | .makeSlice t l _ => mkH P t (E l) H
  | .makeMap _ none => H ++ [.mp [] (some 0)]
  | .mapUpdate _ m k x => muH (E m) (E k) (E x) H
  | .insert _ m k x => muH (E m) (E k) (E x) H
  | .mapEntry t m k => meH P t (E m) (E k) H
  | .entryStore _ m s x => esH (E m) (E s) (E x) H
  | _ => H
/-- which of them write, which of them read -/
def xW : Op → Bool
  | .call { callee := .builtin .append, .. } | .call { callee := .builtin .copy, .. } | .call { callee := .builtin .clear, .. } | .call { callee := .builtin .delete, .. } => true
  | .makeSlice .. | .makeMap .. | .mapUpdate .. | .insert .. | .mapEntry .. | .entryStore .. => true
  | _ => false
def xR : Op → Bool
  | .lookup .. => true
  | _ => false

theorem x_still {P : Program} {b : Bool} {op : Op} {E : Ev} {H : List HO} (h : xW op = false) : xH P b op E H = H := by
  unfold xH
  split <;> first | rfl | (simp [xW] at h)
theorem x_indep {P : Program} {b : Bool} {op : Op} {E : Ev} {H : List HO} (h : xW op = false) (h' : xR op = false) (hs : xS P b op E H) (H2 : List HO) : xS P b op E H2 ∧ xV P b op E H2 = xV P b op E H := by
  unfold xS at hs
  split at hs <;> first | (simp [xW] at h; done) | (simp [xR] at h'; done) | exact hs.elim

theorem two {xs : Array Operand} {E : Ev} {x y : AV} (h : xs.toList.map E = [x, y]) : ∃ a b, x = E a ∧ y = E b ∧ xs = #[a, b] := by
  match hl : xs.toList, h with
  | [a, b], h => simp at h; exact ⟨a, b, h.1.symm, h.2.symm, by apply Array.ext'; simpa using hl⟩
theorem one' {xs : Array Operand} {E : Ev} {x : AV} (h : xs.toList.map E = [x]) : ∃ a, x = E a ∧ xs = #[a] := by
  match hl : xs.toList, h with
  | [a], h => simp at h; exact ⟨a, h.symm, by apply Array.ext'; simpa using hl⟩

theorem x_ok {P : Program} {b : Bool} {o : Oper} {E : Ev} {H : List HO} (hs : xS P b o.op E H) : OpT P o E H (xV P b o.op E H) (xH P b o.op E H) := by
  obtain ⟨dst, op, ty, pos, after, guard⟩ := o
  dsimp only at hs ⊢
  unfold xS at hs
  split at hs
  · rename_i xs ts
    split at hs
    · rename_i t t' hts
      unfold app2 at hs
      split at hs
      · rename_i x y hxy
        obtain ⟨a, c, rfl, rfl, rfl⟩ := two hxy
        have ets : ts = #[t, t'] := by apply Array.ext'; simpa using hts
        subst ets
        refine OpT.value fun w0 Γ w ρ hr hx => ?_
        obtain ⟨Γ', v, w', h1, h2, h3, h4⟩ := app_run (ty := ty) hr hs (hx a (by simp [Op.operands, Call.operands])).ex (hx c (by simp [Op.operands, Call.operands]))
        refine ⟨Γ', v, w', ?_, h2, by simpa [xV, app2] using h3, by simpa [xH, app2] using h4⟩
        simp [execOp, resolve, invoke, builtin, h1]
      · exact hs.elim
    · exact hs.elim
  · rename_i xs ts
    split at hs
    · rename_i t t' hts
      unfold app2 at hs
      split at hs
      · rename_i x y hxy
        obtain ⟨a, c, rfl, rfl, rfl⟩ := two hxy
        have ets : ts = #[t, t'] := by apply Array.ext'; simpa using hts
        subst ets
        refine OpT.value fun w0 Γ w ρ hr hx => ?_
        obtain ⟨v, w', h1, h3, h4⟩ := cp_run (ty := ty) (t' := t') hr hs (hx a (by simp [Op.operands, Call.operands])) (hx c (by simp [Op.operands, Call.operands]))
        refine ⟨Γ, v, w', ?_, Gh.Le.refl Γ, by simpa [xV, app2] using h3, by simpa [xH, app2] using h4⟩
        simp [execOp, resolve, invoke, builtin, h1]
      · exact hs.elim
    · exact hs.elim
  · rename_i xs ts
    split at hs
    · rename_i t hts
      unfold app1 at hs
      split at hs
      · rename_i x hxy
        obtain ⟨a, rfl, rfl⟩ := one' hxy
        have ets : ts = #[t] := by apply Array.ext'; simpa using hts
        subst ets
        refine OpT.value fun w0 Γ w ρ hr hx => ?_
        obtain ⟨w', h1, h4⟩ := cl_run (ty := ty) hr hs (hx a (by simp [Op.operands, Call.operands]))
        refine ⟨Γ, .tuple #[], w', ?_, Gh.Le.refl Γ, .any _, by simpa [xH, app1] using h4⟩
        simp [execOp, resolve, invoke, builtin, h1]
      · exact hs.elim
    · exact hs.elim
  · rename_i xs ts
    split at hs
    · rename_i t t' hts
      unfold app2 at hs
      split at hs
      · rename_i x y hxy
        obtain ⟨a, c, rfl, rfl, rfl⟩ := two hxy
        have ets : ts = #[t, t'] := by apply Array.ext'; simpa using hts
        subst ets
        refine OpT.value fun w0 Γ w ρ hr hx => ?_
        obtain ⟨w', h1, h4⟩ := del_run (P := P) (ty := ty) (t' := t') hr hs (hx a (by simp [Op.operands, Call.operands])) (hx c (by simp [Op.operands, Call.operands]))
        refine ⟨Γ, .tuple #[], w', ?_, Gh.Le.refl Γ, .any _, by simpa [xH, app2] using h4⟩
        simp [execOp, resolve, invoke, builtin, h1]
      · exact hs.elim
    · exact hs.elim
  · rename_i t l c
    refine OpT.value fun w0 Γ w ρ hr hx => ?_
    obtain ⟨Γ', v, w', h1, h2, h3, h4⟩ := mk_run (P := P) hr hs (hx l (by simp [Op.operands])) (hx c (by simp [Op.operands]))
    exact ⟨Γ', v, w', by simp [execOp, h1], h2, h3, h4⟩
  · rename_i t
    refine OpT.value fun w0 Γ w ρ hr hx => ?_
    obtain ⟨Γ', v, w', h1, h2, h3, h4⟩ := mm_run (P := P) (t := t) hr
    exact ⟨Γ', v, w', by simp [execOp, h1], h2, h3, h4⟩
  · rename_i t m k ok
    refine OpT.value fun w0 Γ w ρ hr hx => ?_
    obtain ⟨v, h1, h3⟩ := lk_run (ok := ok) hr hs (hx m (by simp [Op.operands])) (hx k (by simp [Op.operands]))
    exact ⟨Γ, v, w, by simp [execOp, h1], Gh.Le.refl Γ, h3, hr⟩
  · rename_i t m k x
    refine OpT.skip fun w0 Γ w ρ hr hx => ?_
    obtain ⟨w', h1, h4⟩ := mu_run hr hs (hx m (by simp [Op.operands])) (hx k (by simp [Op.operands])) (hx x (by simp [Op.operands]))
    exact ⟨Γ, w', by simp [execOp, h1], Gh.Le.refl Γ, h4⟩
  · rename_i t m k x
    refine OpT.skip fun w0 Γ w ρ hr hx => ?_
    obtain ⟨w', h1, h4⟩ := mu_run hr hs (hx m (by simp [Op.operands])) (hx k (by simp [Op.operands])) (hx x (by simp [Op.operands]))
    exact ⟨Γ, w', by simp [execOp, h1], Gh.Le.refl Γ, h4⟩
  · rename_i t m k
    refine OpT.value fun w0 Γ w ρ hr hx => ?_
    obtain ⟨v, w', h1, h3, h4⟩ := me_run hr hs (hx m (by simp [Op.operands])) (hx k (by simp [Op.operands]))
    exact ⟨Γ, v, w', by simp [execOp, h1], Gh.Le.refl Γ, h3, h4⟩
  · rename_i t m s x
    refine OpT.skip fun w0 Γ w ρ hr hx => ?_
    obtain ⟨w', h1, h4⟩ := es_run (P := P) (t := t) hr hs (hx m (by simp [Op.operands])) (hx s (by simp [Op.operands])) (hx x (by simp [Op.operands]))
    exact ⟨Γ, w', by simp [execOp, h1], Gh.Le.refl Γ, h4⟩
  · exact hs.elim
end Go.Proofs.YtjplcdeaedflpaaGreatDoor.PL

namespace Go.Proofs.YtjplcdeaedflpaaGreatDoor.PL
open Go.RowKit

abbrev Env := Nat → AV
def upd (e : Env) (d : Nat) (v : AV) : Env := fun t => if t = d then v else e t
def updo (e : Env) (d : Option Nat) (v : AV) : Env := match d with | some d => upd e d v | none => e
theorem upd_same (e : Env) (d : Nat) (v : AV) : upd e d v d = v := by simp [upd]
theorem upd_ne (e : Env) (d t : Nat) (v : AV) (h : t ≠ d) : upd e d v t = e t := by simp [upd, h]

inductive Ex where
  | normal | exit (id : Nat) | ret | goto (l : Nat)
  deriving DecidableEq

/-- A call of plain values that leaves all as it is. -/
def TD (P : Program) (f : FuncId) (args : List AV) (r : AV) : Prop := ∀ H, TS P f args H fun r' H' => r' = r ∧ H' = H
theorem TD.of_T {P : Program} {f : FuncId} {args ys : List AV} {r : AV} (h : T P f ys r) (hc : Cls args ys) : TD P f args r := fun H => TS.of_T h hc ⟨rfl, rfl⟩

/-- What an operation asks for, and hands on. d: may it come in another order. -/
def vcOp0 (P : Program) (M : List Nat) (d : Bool) (o : Oper) (E : Ev) (H : List HO) (K : AV → List HO → Prop) : Prop :=
  if isP o.op = true then psOp P o.op E H ∧ K (pvOp P o.op E H) H
  else match o.op with
  | .buildSlice t len parts => bslS P t len (parts.toList.map fun p => (p.1, E p.2)) ∧ K (bslV P t len (parts.toList.map fun p => (p.1, E p.2))) H
  | .box e x => (E x).okc = true ∧ K (.ptr H.length 0) (H ++ [.box (E x).cells])
  | .alloc e => match zOf P e with | some z => z.okc = true ∧ K (.ptr H.length 0) (H ++ [.box z.cells]) | none => False
  | .store t a x => match E a with
    | .ptr i off => match H[i]? with
      | some (.box cs) => (E x).okc = true ∧ szOf P t = some (E x).cells.length ∧ off + (E x).cells.length ≤ cs.length ∧ K .any (H.set i (.box (splice cs off (E x).cells)))
      | _ => False
    | .eptr i n off => match H[i]? with
      | some (.row m sz cs) => m = n ∧ (E x).okc = true ∧ szOf P t = some (E x).cells.length ∧ off + (E x).cells.length ≤ cs.length ∧ K .any (H.set i (.row n sz (splice cs off (E x).cells)))
      | _ => False
    | _ => False
  | .makeFunc fn first captured => K (.fn fn (first.toList.map E) (captured.toList.map E)) H
  | .call { callee := .value x, args := xs, .. } => match E x with
    | .fn (.func f) first captured =>
      if d = true then ∃ r, TD P f (first ++ xs.toList.map E ++ captured) r ∧ K r H else TS P f (first ++ xs.toList.map E ++ captured) H K
    | _ => False
  | .range t x => rangeK P t (E x) H K
  | .next x s => nextK d s (E x) H K
  | .entry x => entryK d (E x) H K
  | op => xS P (rowM M o.dst) op E H ∧ K (xV P (rowM M o.dst) op E H) (xH P (rowM M o.dst) op E H)

/-- Is this an operation that writes? -/
def isW : Op → Bool
  | .box .. | .alloc .. | .store .. | .range .. | .next .. | .entry .. => true
  | op => xW op

theorem bsl_ok {P : Program} {o : Oper} {E : Ev} {H : List HO} {t : TypeId} {len : Nat} {parts : Array (Nat × Operand)} (ho : o.op = .buildSlice t len parts) (hs : bslS P t len (parts.toList.map fun p => (p.1, E p.2))) :
    OpT P o E H (bslV P t len (parts.toList.map fun p => (p.1, E p.2))) H := by
  refine OpT.value fun w0 Γ w ρ hr hx => ?_
  rw [ho] at hx
  obtain ⟨Γ', v, w', h1, h2⟩ := bsl_run (P := P) hr hs (VRp.map (ρ := ρ) (l := parts.toList) fun p hp => hx p.2 (by
    simp only [Op.operands, List.mem_toArray, List.mem_map]
    exact ⟨p, hp, rfl⟩))
  have e : (parts.toList.map fun p => (p.1, ρ p.2)).toArray = parts.map fun p => (p.1, ρ p.2) := by
    apply Array.ext'; simp
  rw [e] at h1
  exact ⟨Γ', v, w', by simp [execOp, ho, h1], h2⟩

theorem box_ok {P : Program} {o : Oper} {E : Ev} {H : List HO} {t : TypeId} {x : Operand} (ho : o.op = .box t x) (hs : (E x).okc = true) : OpT P o E H (.ptr H.length 0) (H ++ [.box (E x).cells]) := by
  refine OpT.value fun w0 Γ w ρ hr hx => ?_
  rw [ho] at hx
  obtain ⟨Γ', v, w', h1, h2⟩ := box_run (P := P) (e := t) hr (hx x (by simp [Op.operands])) hs
  exact ⟨Γ', v, w', by simp [execOp, ho, h1], h2⟩

theorem alloc_ok {P : Program} {o : Oper} {E : Ev} {H : List HO} {t : TypeId} {z : AV} (ho : o.op = .alloc t) (hz : zOf P t = some z) (hs : z.okc = true) : OpT P o E H (.ptr H.length 0) (H ++ [.box z.cells]) := by
  refine OpT.value fun w0 Γ w ρ hr hx => ?_
  obtain ⟨Γ', v, w', h1, h2⟩ := alloc_run (P := P) hr hz hs
  exact ⟨Γ', v, w', by simp [execOp, ho, h1], h2⟩

theorem store_ok {P : Program} {o : Oper} {E : Ev} {H : List HO} {t : TypeId} {a x : Operand} {i off : Nat} {cs : List AV} (ho : o.op = .store t a x) (ha : E a = .ptr i off) (hi : H[i]? = some (.box cs))
    (hok : (E x).okc = true) (hn : szOf P t = some (E x).cells.length) (hf : off + (E x).cells.length ≤ cs.length) : OpT P o E H .any (H.set i (.box (splice cs off (E x).cells))) := by
  refine OpT.skip fun w0 Γ w ρ hr hx => ?_
  rw [ho] at hx
  have hpa := hx a (by simp [Op.operands])
  rw [ha] at hpa
  obtain ⟨w', h1, h2⟩ := st_run (P := P) hr hpa (hx x (by simp [Op.operands])) hi hok hn hf
  exact ⟨Γ, w', by simp [execOp, ho, h1], Gh.Le.refl Γ, h2⟩

theorem estore_ok {P : Program} {o : Oper} {E : Ev} {H : List HO} {t : TypeId} {a x : Operand} {i n sz off : Nat} {cs : List AV} (ho : o.op = .store t a x) (ha : E a = .eptr i n off) (hi : H[i]? = some (.row n sz cs))
    (hok : (E x).okc = true) (hn : szOf P t = some (E x).cells.length) (hf : off + (E x).cells.length ≤ cs.length) : OpT P o E H .any (H.set i (.row n sz (splice cs off (E x).cells))) := by
  refine OpT.skip fun w0 Γ w ρ hr hx => ?_
  rw [ho] at hx
  have hpa := hx a (by simp [Op.operands])
  rw [ha] at hpa
  obtain ⟨w', h1, h2⟩ := est_run (P := P) hr hpa (hx x (by simp [Op.operands])) hi hok hn hf
  exact ⟨Γ, w', by simp [execOp, ho, h1], Gh.Le.refl Γ, h2⟩

theorem makeFunc_ok {P : Program} {o : Oper} {E : Ev} {H : List HO} {fn : Fn} {first captured : Array Operand} (ho : o.op = .makeFunc fn first captured) :
    OpT P o E H (.fn fn (first.toList.map E) (captured.toList.map E)) H := by
  refine OpT.value fun w0 Γ w ρ hr hx => ?_
  rw [ho] at hx
  refine ⟨Γ, .func fn (first.toList.map ρ).toArray (captured.toList.map ρ).toArray, w, ?_, Gh.Le.refl Γ, .fn (VRs.map fun p hp => hx p ?_) (VRs.map fun p hp => hx p ?_), hr⟩
  · have e1 : (first.toList.map ρ).toArray = first.map ρ := by apply Array.ext'; simp
    have e2 : (captured.toList.map ρ).toArray = captured.map ρ := by apply Array.ext'; simp
    rw [e1, e2]
    simp [execOp, ho, Instr.makeFunc]
  · simp [Op.operands]; left; simpa using hp
  · simp [Op.operands]; right; simpa using hp

theorem call_wp {P : Program} {o : Oper} {E : Ev} {H : List HO} {K : AV → List HO → Prop} {x : Operand} {xs : Array Operand} {ts : Array TypeId} {f : FuncId} {first captured : List AV}
    (ho : o.op = .call { callee := .value x, args := xs, argTypes := ts }) (hf : E x = .fn (.func f) first captured) (h : TS P f (first ++ xs.toList.map E ++ captured) H K) :
    ∀ (w0 : Bs) (Γ : Gh) (w : World) (a : Act) (next : Act → World → Prop) (Q : Exit → Act → World → Prop), R w0 Γ H w → (∀ x, x ∈ o.op.operands → VR Γ (E x) (a.eval x)) →
      (∀ Γ' v r H' w', Gh.Le Γ Γ' → VR Γ' r v → R w0 Γ' H' w' → K r H' → next (a.put o.dst v) w') → o.wp P a w next Q := by
  intro w0 Γ w a next Q hr hx hk
  rw [ho] at hx
  have hfx := hx x (by simp [Op.operands, Call.operands])
  rw [hf] at hfx
  have hargs : VRs Γ (xs.toList.map E) (xs.toList.map a.eval) := VRs.map fun p hp => hx p (by simp [Op.operands, Call.operands]; right; simpa using hp)
  generalize hv : a.eval x = u at hfx
  cases hfx with
  | @fn _ _ _ us vs h1 h2 =>
  have hargs2 := (h1.append hargs).append h2
  have hc0 := h w0 Γ w _ hr hargs2
  have e : (us ++ xs.toList.map a.eval ++ vs).toArray = (us.toArray ++ xs.map a.eval) ++ vs.toArray := by apply Array.ext'; simp
  rcases hc0 with ⟨⟨fn, hc1, hc2, hc3⟩, hc⟩ | ⟨v, hc, hq⟩
  case inr =>
    have hrun : (execOp a.eval o).run P w = .ok (.value v) w := by
      rw [e] at hc
      simp [execOp, ho, resolve, hv, Deferred.ofValue, invoke]
      simpa using hc
    unfold Oper.wp
    rw [hrun]
    obtain ⟨Γ', v', r, H', e1, g1, g2, g3, g4⟩ := hq
    cases e1
    exact hk Γ' v r H' w g1 g2 g3 g4
  have hrun : (execOp a.eval o).run P w = .ok (.enter f (us ++ xs.toList.map a.eval ++ vs).toArray) w := by
    have hb : ¬ fn.body = none := by intro e; rw [e] at hc3; cases hc3
    have hn : ¬ fn.name = "runtime.NumGoroutine" := by simpa using hc2
    rw [e]
    simp [execOp, ho, resolve, hv, Deferred.ofValue, invoke, callFunc, hc1, hn, hb]
  unfold Oper.wp
  rw [hrun, Oper.upon_enter]
  refine hc.mono ?_
  rintro e w' ⟨Γ', v, r, H', rfl, g1, g2, g3, g4⟩
  exact hk Γ' v r H' w' g1 g2 g3 g4

theorem vcRange_ok {P : Program} {o : Oper} {E : Ev} {H : List HO} {K : AV → List HO → Prop} {t : TypeId} {x : Operand} (ho : o.op = .range t x) (h : rangeK P t (E x) H K) : ∃ r H', OpT P o E H r H' ∧ K r H' := by
  unfold rangeK at h
  split at h
  · rename_i id hx0
    unfold rgK at h
    split at h
    · rename_i es k hi
      refine ⟨_, _, OpT.value fun w0 Γ w ρ hr hx => ?_, h.2⟩
      rw [ho] at hx
      have hv := hx x (by simp [Op.operands])
      rw [hx0] at hv
      obtain ⟨Γ', v, w', h1, h2⟩ := rg_run (P := P) hr h.1 hi hv
      exact ⟨Γ', v, w', by simp [execOp, ho, h1], h2⟩
    · exact h.elim
  · exact h.elim

theorem vcOp0_ok {P : Program} {M : List Nat} {d : Bool} {o : Oper} {E : Ev} {H : List HO} {K : AV → List HO → Prop} (h : vcOp0 P M d o E H K) (hd : d = true) : ∃ r H', OpT P o E H r H' ∧ K r H' ∧ (isW o.op = false → H' = H) := by
  subst hd
  unfold vcOp0 at h
  split at h
  · rename_i hp
    exact ⟨_, H, pure_ok hp h.1, h.2, fun _ => rfl⟩
  · split at h
    · rename_i ho; exact ⟨_, _, bsl_ok ho h.1, h.2, fun _ => rfl⟩
    · rename_i ho; exact ⟨_, _, box_ok ho h.1, h.2, fun e => by rw [ho] at e; cases e⟩
    · rename_i ho
      split at h
      · rename_i z hz; exact ⟨_, _, alloc_ok ho hz h.1, h.2, fun e => by rw [ho] at e; cases e⟩
      · exact h.elim
    · rename_i ho
      split at h
      · rename_i i off ha
        split at h
        · rename_i cs hi; exact ⟨_, _, store_ok ho ha hi h.1 h.2.1 h.2.2.1, h.2.2.2, fun e => by rw [ho] at e; cases e⟩
        · exact h.elim
      · rename_i i n off ha
        split at h
        · rename_i m sz cs hi
          obtain ⟨rfl, h⟩ := h
          exact ⟨_, _, estore_ok ho ha hi h.1 h.2.1 h.2.2.1, h.2.2.2, fun e => by rw [ho] at e; cases e⟩
        · exact h.elim
      · exact h.elim
    · rename_i ho; exact ⟨_, _, makeFunc_ok ho, h, fun _ => rfl⟩
    · rename_i ho
      split at h
      · rename_i f first captured hf
        rw [if_pos rfl] at h
        obtain ⟨r, ht, hk⟩ := h
        refine ⟨r, H, ?_, hk, fun _ => rfl⟩
        intro w0 Γ w a next Q hr hx hn
        refine call_wp ho hf (ht H) w0 Γ w a next Q hr hx ?_
        rintro Γ' v r' H' w' g1 g2 g3 ⟨rfl, rfl⟩
        exact hn Γ' v w' g1 g2 g3
      · exact h.elim
    · rename_i ho
      obtain ⟨r, H', h1, h2⟩ := vcRange_ok ho h
      exact ⟨r, H', h1, h2, fun e => by rw [ho] at e; cases e⟩
    · exact absurd h.1 (by simp)
    · exact absurd h.1 (by simp)
    · exact ⟨_, _, x_ok h.1, h.2, fun e => x_still (by
        unfold isW at e
        split at e <;> first | (cases e; done) | exact e)⟩

/-- What an operation does, in the end. -/
theorem vcOp0_wp {P : Program} {M : List Nat} {d : Bool} {o : Oper} {E : Ev} {H : List HO} {K : AV → List HO → Prop} (h : vcOp0 P M d o E H K) :
    ∀ (w0 : Bs) (Γ : Gh) (w : World) (a : Act) (next : Act → World → Prop) (Q : Exit → Act → World → Prop), R w0 Γ H w → (∀ x, x ∈ o.op.operands → VR Γ (E x) (a.eval x)) →
      (∀ Γ' v r H' w', Gh.Le Γ Γ' → VR Γ' r v → R w0 Γ' H' w' → K r H' → next (a.put o.dst v) w') → o.wp P a w next Q := by
  intro w0 Γ w a next Q hr hx hk
  have fin : ∀ {r H'}, OpT P o E H r H' → K r H' → o.wp P a w next Q := fun ht hK => ht w0 Γ w a next Q hr hx fun Γ' v w' g1 g2 g3 => hk Γ' v _ _ w' g1 g2 g3 hK
  cases d with
  | true =>
    obtain ⟨r, H', ht, hK, _⟩ := vcOp0_ok h rfl
    exact fin ht hK
  | false =>
    by_cases hcall : ∃ x xs ts, o.op = .call { callee := .value x, args := xs, argTypes := ts }
    · obtain ⟨x, xs, ts, ho⟩ := hcall
      unfold vcOp0 at h
      rw [ho] at h
      simp only [isP, Bool.false_eq_true, if_false] at h
      split at h
      · rename_i f first captured hf
        exact call_wp ho hf h w0 Γ w a next Q hr hx hk
      · exact h.elim
    · by_cases hnext : ∃ x s, o.op = .next x s
      · obtain ⟨x, s, ho⟩ := hnext
        unfold vcOp0 at h
        rw [ho] at h
        simp only [isP, Bool.false_eq_true, if_false] at h
        obtain ⟨_, rfl, h⟩ := h
        split at h
        · rename_i i hx0
          unfold nxK at h
          split at h
          · rename_i m k n seen hi
            unfold nx2K at h
            split at h
            · rename_i es c hm
              obtain ⟨rfl, hn, h1, h2⟩ := h
              have hv := hx x (by rw [ho]; simp [Op.operands])
              rw [hx0] at hv
              obtain ⟨v, w', r, H', g1, g2, g3, g4⟩ := nx_run (P := P) (ty := o.type) (K := K) hr hi hm hn h1 h2 hv
              unfold Oper.wp
              have hrun : (execOp a.eval o).run P w = .ok (.value v) w' := by simp [execOp, ho, g1]
              rw [hrun]
              exact hk Γ v r H' w' (Gh.Le.refl Γ) g2 g3 g4
            · exact h.elim
          · exact h.elim
        · exact h.elim
      by_cases hent : ∃ x, o.op = .entry x
      · obtain ⟨x, ho⟩ := hent
        unfold vcOp0 at h
        rw [ho] at h
        simp only [isP, Bool.false_eq_true, if_false] at h
        obtain ⟨_, h⟩ := h
        split at h
        · rename_i i hx0
          unfold enK at h
          split at h
          · rename_i m k n seen hi
            unfold en2K at h
            split at h
            · rename_i es c hm
              obtain ⟨rfl, hn, s, j, e, rfl, he, hK⟩ := h
              have hv := hx x (by rw [ho]; simp [Op.operands])
              rw [hx0] at hv
              obtain ⟨v, g1, g2⟩ := en_run (P := P) hr hi hm hn he hv
              unfold Oper.wp
              have hrun : (execOp a.eval o).run P w = .ok (.value v) w := by simp [execOp, ho, g1]
              rw [hrun]
              exact hk Γ v _ H w (Gh.Le.refl Γ) g2 hr hK
            · exact h.elim
          · exact h.elim
        · exact h.elim
      have h' : vcOp0 P M true o E H K := by
        unfold vcOp0 at h ⊢
        split at h
        · rename_i hp; rw [if_pos hp]; exact h
        · rename_i hp
          rw [if_neg hp]
          split at h <;> first | exact h | (rename_i ho; exact (hcall ⟨_, _, _, ho⟩).elim) | (rename_i ho; exact (hnext ⟨_, _, ho⟩).elim) | (rename_i ho; exact (hent ⟨_, ho⟩).elim)
      obtain ⟨r, H', ht, hK, _⟩ := vcOp0_ok h' rfl
      exact fin ht hK

/-- len of a map -/
def lenM (op : Op) (E : Ev) : Option (Nat × Array TypeId) :=
  match op with
  | .call { callee := .builtin .len, args := xs, argTypes := ts } => match xs.toList.map E with | [.map id] => some (id, ts) | _ => none
  | _ => none
def lenMK (P : Program) (ts : Array TypeId) (id : Nat) (H : List HO) (K : AV → List HO → Prop) : Prop :=
  match ts[0]? with
  | some t => match P.underlying t with
    | some (.map _ _) => match H[id]? with | some (.mp es _) => K (.int .i64 es.length) H | _ => False
    | _ => False
  | none => False
/-- What an operation asks for, and hands on. d: may it come in another order. -/
def vcOp (P : Program) (M : List Nat) (d : Bool) (o : Oper) (E : Ev) (H : List HO) (K : AV → List HO → Prop) : Prop :=
  match lenM o.op E with
  | some p => d = false ∧ lenMK P p.2 p.1 H K
  | none => vcOp0 P M d o E H K
theorem lenM_none {op : Op} {E : Ev} (h : ∀ xs ts, op ≠ .call { callee := .builtin .len, args := xs, argTypes := ts }) : lenM op E = none := by
  unfold lenM
  split
  · exact absurd rfl (h _ _)
  · rfl
theorem vcOp_of0 {P : Program} {M : List Nat} {d : Bool} {o : Oper} {E : Ev} {H : List HO} {K : AV → List HO → Prop} (h : ∀ xs ts, o.op ≠ .call { callee := .builtin .len, args := xs, argTypes := ts }) : vcOp P M d o E H K = vcOp0 P M d o E H K := by
  unfold vcOp
  rw [lenM_none h]
theorem vcOp_true {P : Program} {M : List Nat} {o : Oper} {E : Ev} {H : List HO} {K : AV → List HO → Prop} (h : vcOp P M true o E H K) : lenM o.op E = none ∧ vcOp0 P M true o E H K := by
  unfold vcOp at h
  split at h
  · exact absurd h.1 (by simp)
  · rename_i hm
    exact ⟨hm, h⟩
theorem vcOp_ok {P : Program} {M : List Nat} {d : Bool} {o : Oper} {E : Ev} {H : List HO} {K : AV → List HO → Prop} (h : vcOp P M d o E H K) (hd : d = true) : ∃ r H', OpT P o E H r H' ∧ K r H' ∧ (isW o.op = false → H' = H) := by
  subst hd
  exact vcOp0_ok (vcOp_true h).2 rfl
theorem lenM_run {P : Program} {w0 : Bs} {Γ : Gh} {H : List HO} {w : World} {t : TypeId} {ts : Array TypeId} {ty : TypeId} {id : Nat} {es : List (AV × AV)} {c : Option Nat} {kt e : TypeId} {u : Value} (hr : R w0 Γ H w) (ht : ts[0]? = some t) (hu : P.underlying t = some (.map kt e)) (hi : H[id]? = some (.mp es c)) (hx : VR Γ (.map id) u) :
    (Builtin.len_ ts ty #[u]).run P w = .ok (.int .i64 es.length) w := by
  cases hx with
  | @map _ b hB =>
  obtain ⟨ents, clock, h1, h2, _⟩ := hr.mp hi hB
  have hlen : es.length = ents.size := by rw [h2.length]; simp
  simp [Builtin.len_, ht, run_underlying' hu, run_getObj' h1, goInt, hlen]
/-- What an operation does, in the end. -/
theorem vcOp_wp {P : Program} {M : List Nat} {d : Bool} {o : Oper} {E : Ev} {H : List HO} {K : AV → List HO → Prop} (h : vcOp P M d o E H K) :
    ∀ (w0 : Bs) (Γ : Gh) (w : World) (a : Act) (next : Act → World → Prop) (Q : Exit → Act → World → Prop), R w0 Γ H w → (∀ x, x ∈ o.op.operands → VR Γ (E x) (a.eval x)) →
      (∀ Γ' v r H' w', Gh.Le Γ Γ' → VR Γ' r v → R w0 Γ' H' w' → K r H' → next (a.put o.dst v) w') → o.wp P a w next Q := by
  unfold vcOp at h
  split at h
  · rename_i p hm
    obtain ⟨_, h⟩ := h
    unfold lenM at hm
    split at hm
    · rename_i xs ts ho
      split at hm
      · rename_i id hid
        cases hm
        unfold lenMK at h
        split at h
        · rename_i t ht
          split at h
          · rename_i kt e hu
            split at h
            · rename_i es c hi
              intro w0 Γ w a next Q hr hx hk
              obtain ⟨x, hxs, hxe⟩ : ∃ x, xs.toList = [x] ∧ E x = .map id := by
                cases hl : xs.toList with
                | nil => rw [hl] at hid; cases hid
                | cons x l =>
                  rw [hl] at hid
                  cases l with
                  | nil => refine ⟨x, rfl, ?_⟩; simpa using hid
                  | cons y l => simp at hid
              have hxa : xs = #[x] := by apply Array.ext'; simpa using hxs
              subst hxa
              have hv := hx x (by rw [ho]; simp [Op.operands, Call.operands])
              rw [hxe] at hv
              have hrun : (execOp a.eval o).run P w = .ok (.value (.int .i64 es.length)) w := by
                have := lenM_run (P := P) (ty := o.type) hr ht hu hi hv
                simp only [] at this
                simp [execOp, ho, resolve, invoke, builtin, this]
              unfold Oper.wp
              rw [hrun]
              exact hk Γ _ _ H w (Gh.Le.refl Γ) (.int _ _) hr h
            · exact h.elim
          · exact h.elim
        · exact h.elim
      · cases hm
    · cases hm
  · exact vcOp0_wp h

end Go.Proofs.YtjplcdeaedflpaaGreatDoor.PL

namespace Go.Proofs.YtjplcdeaedflpaaGreatDoor.PL
open Go.RowKit

/-! ### guards -/
def gb (x : AV) (want : Bool) : Option Bool :=
  match x with
  | .bool b => some (if want then b else !b)
  | .opt g (.bool b) => some (g && (if want then b else !b))
  | _ => none

/-- What a guarded operation looks at. -/
def gE (op : Op) (e : Env) : Ev := match op with | .pick .. => evA e | _ => fun x => (evA e x).un
def gO (op : Op) (e : Env) : Prop := match op with | .pick .. => True | _ => ∀ x, x ∈ op.operands → (evA e x).optB = true
theorem gE_ok {op : Op} {e : Env} {x : Operand} {v : Value} {Γ : Gh} (ho : gO op e) (hx : x ∈ op.operands) (h : VR Γ (evA e x) v) : VR Γ (gE op e x) v := by
  cases op <;> first | exact h | exact h.un (ho x hx)
/-- One operation of a region, its guard beside it. -/
def vcG (P : Program) (M : List Nat) (d : Bool) (ops : Array Oper) (o : Oper) (e : Env) (H : List HO) (K : AV → List HO → Prop) : Prop :=
  match o.guard with
  | none => vcOp P M d o (evA e) H K
  | some (j, want) => match (ops[j]?).bind (·.dst) with
    | none => False
    | some t => match gb (e t) want with
      | none => False
      | some g => if isP o.op = true then (g = true → gO o.op e ∧ psOp P o.op (gE o.op e) H) ∧ K (.opt g (pvOp P o.op (gE o.op e) H)) H
        else match o.op with
        | .call { callee := .value x, args := xs, .. } => match (evA e x).un with
          | .fn (.func f) first captured => (∃ r, (g = true → (∀ x, x ∈ o.op.operands → (evA e x).optB = true) ∧ TD P f (first ++ (xs.toList.map fun x => (evA e x).un) ++ captured) r) ∧ K (.opt g r) H) ∨
              (d = false ∧ (g = true → (∀ x, x ∈ o.op.operands → (evA e x).optB = true) ∧ TS P f (first ++ (xs.toList.map fun x => (evA e x).un) ++ captured) H fun r H' => K (.opt g r) H') ∧ (g = false → ∃ r, K (.opt g r) H))
          | _ => False
        | _ => (g = true → (∀ x, x ∈ o.op.operands → (evA e x).optB = true) ∧ vcOp P M d o (fun x => (evA e x).un) H K) ∧ (g = false → K (.tup []) H)

def vcOps (P : Program) (M : List Nat) (d : Bool) (ops : Array Oper) : List Oper → (Env → List HO → Prop) → Env → List HO → Prop
  | [], K, e, H => K e H
  | o :: os, K, e, H => vcG P M d ops o e H fun r H' => vcOps P M d ops os K (updo e o.dst r) H'

/-- The temporaries, as they are told. -/
structure RE (N : Nat) (Γ : Gh) (e : Env) (a : Act) : Prop where
  size : a.tmps.size = N
  defers : a.defers = []
  val : ∀ t, t < N → VR Γ (e t) (a.tmps.getD t undef)

theorem RE.mono {N : Nat} {Γ Δ : Gh} {e : Env} {a : Act} (h : RE N Γ e a) (le : Gh.Le Γ Δ) : RE N Δ e a := ⟨h.size, h.defers, fun t ht => (h.val t ht).mono le⟩

theorem RE.put {N : Nat} {Γ : Gh} {e : Env} {a : Act} (h : RE N Γ e a) {d : Option Nat} {x : AV} {v : Value} (hv : VR Γ x v) : RE N Γ (updo e d x) (a.put d v) := by
  cases d with
  | none => exact h
  | some d =>
    refine ⟨by simp [Act.put, h.size], h.defers, fun t ht => ?_⟩
    simp only [Act.put, updo, upd, Array.getD_eq_getD_getElem?, Array.getElem?_setIfInBounds]
    by_cases e1 : t = d
    · subst e1
      rw [if_pos rfl, if_pos rfl, if_pos (by rw [h.size]; exact ht)]
      exact hv
    · rw [if_neg e1, if_neg (fun x => e1 x.symm)]
      have := h.val t ht
      rwa [Array.getD_eq_getD_getElem?] at this

def opnOk (N : Nat) (x : Operand) : Bool := match x with | .tmp t => decide (t < N) | _ => true

theorem RE.eval {N : Nat} {Γ : Gh} {e : Env} {a : Act} (h : RE N Γ e a) {x : Operand} (hx : opnOk N x = true) : VR Γ (evA e x) (a.eval x) := by
  cases x with
  | tmp t => exact h.val t (by simpa [opnOk] using hx)
  | const v => exact VR.ofConst Γ v
  | global g => exact .any _
  | func f => exact .fn .nil .nil

def operOk (N : Nat) (ops : Array Oper) (o : Oper) : Bool :=
  o.op.operands.all (opnOk N) && match o.guard with | none => true | some (j, _) => match (ops[j]?).bind (·.dst) with | some t => decide (t < N) | none => false

theorem opn_of {N : Nat} {ops : Array Oper} {o : Oper} (h : operOk N ops o = true) : ∀ x, x ∈ o.op.operands → opnOk N x = true := by
  unfold operOk at h
  rw [Bool.and_eq_true] at h
  intro x hx
  exact (Array.all_eq_true_iff_forall_mem.1 h.1) x hx

/-- What an operation looks at is there. -/
structure Looks (ops : Array Oper) (o : Oper) (Γ : Gh) (e : Env) (a : Act) : Prop where
  opn : ∀ x, x ∈ o.op.operands → VR Γ (evA e x) (a.eval x)
  grd : ∀ j want t, o.guard = some (j, want) → (ops[j]?).bind (·.dst) = some t → t < a.tmps.size ∧ VR Γ (e t) (a.tmps.getD t undef)

theorem vcG_wp' {P : Program} {M : List Nat} {d : Bool} {ops : Array Oper} {o : Oper} {e : Env} {H : List HO} {K : AV → List HO → Prop} {i : Nat} (hi : ops[i]? = some o) (h : vcG P M d ops o e H K) :
    ∀ (w0 : Bs) (Γ : Gh) (w : World) (a : Act) (next : Act → World → Prop) (Q : Exit → Act → World → Prop), R w0 Γ H w → Looks ops o Γ e a →
      (∀ Γ' v r H' w', Gh.Le Γ Γ' → VR Γ' r v → R w0 Γ' H' w' → K r H' → next (a.put o.dst v) w') → wpOp P ops Q i next a w := by
  intro w0 Γ w a next Q hr he hk
  unfold wpOp
  rw [hi]
  dsimp only
  have hops := he.opn
  unfold vcG at h
  split at h
  · rename_i hg
    rw [if_pos (by simp [Region.wanted, hg])]
    exact .inl (vcOp_wp h w0 Γ w a next Q hr hops hk)
  · rename_i j want hg
    split at h
    · exact h.elim
    · rename_i t ht
      split at h
      · exact h.elim
      · rename_i g hgb
        obtain ⟨htN, hval⟩ := he.grd j want t hg ht
        have hy : Region.wanted o (yielded ops a.tmps) = g ∧ True := by
          refine ⟨?_, trivial⟩
          have hyd : yielded ops a.tmps j = match a.tmps.getD t undef with | .bool b => some b | _ => none := by
            unfold yielded
            rw [ht]
            have hlt : t < a.tmps.size := htN
            simp only [Option.bind_some, Array.getD_eq_getD_getElem?, Array.getElem?_eq_getElem hlt, Option.getD_some]
            split <;> simp_all
          unfold Region.wanted
          rw [hg]
          dsimp only
          rw [hyd]
          unfold gb at hgb
          split at hgb
          · rename_i b hb
            rw [hb] at hval
            generalize a.tmps.getD t undef = u at hval
            cases hval
            simp at hgb
            subst hgb
            cases want <;> cases b <;> rfl
          · rename_i g' b hb
            rw [hb] at hval
            generalize a.tmps.getD t undef = u at hval
            cases hval with
            | opt h1 h2 =>
              simp at hgb
              subst hgb
              cases g' with
              | true =>
                have := h1 rfl
                cases this
                cases want <;> cases b <;> rfl
              | false =>
                have := h2 rfl
                subst this
                cases want <;> rfl
          · cases hgb
        have hw := hy.1
        clear hy
        have hun : (∀ x, x ∈ o.op.operands → (evA e x).optB = true) → ∀ x, x ∈ o.op.operands → VR Γ (evA e x).un (a.eval x) := fun ho x hx => (hops x hx).un (ho x hx)
        have hun' : gO o.op e → ∀ x, x ∈ o.op.operands → VR Γ (gE o.op e x) (a.eval x) := fun ho x hx => gE_ok ho hx (hops x hx)
        have optk : ∀ {r : AV} {H' : List HO}, K (.opt g r) H' → g = true → ∀ Γ' v w', Gh.Le Γ Γ' → VR Γ' r v → R w0 Γ' H' w' → next (a.put o.dst v) w' :=
          fun hK hg Γ' v w' g1 g2 g3 => hk Γ' v _ _ w' g1 (.opt (fun _ => g2) (fun x => by rw [hg] at x; cases x)) g3 hK
        have skip : g = false → ∀ {r : AV}, K (.opt g r) H → (if Region.wanted o (yielded ops a.tmps) then o.wp P a w next Q ∨ (o.asks P a w ∧ LetsOut Q) else next (a.put o.dst undef) w) := by
          intro hgf r hK
          rw [hw, hgf, if_neg (by simp)]
          exact hk Γ undef _ H w (Gh.Le.refl Γ) (.opt (fun x => by rw [hgf] at x; cases x) (fun _ => rfl)) hr hK
        split at h
        · rename_i hp
          obtain ⟨h1, h2⟩ := h
          cases hgv : g with
          | false => exact skip hgv h2
          | true =>
            rw [hw, hgv, if_pos rfl]
            obtain ⟨g1, g2⟩ := h1 hgv
            exact .inl (pure_ok hp g2 w0 Γ w a next Q hr (hun' g1) fun Γ' v w' k1 k2 k3 => optk h2 hgv Γ' v w' k1 k2 k3)
        · split at h
          · rename_i x xs ts ho
            split at h
            · rename_i f first captured hf
              rcases h with ⟨r, h1, h2⟩ | ⟨_, h1, h2⟩
              · cases hgv : g with
                | false => exact skip hgv h2
                | true =>
                  rw [hw, hgv, if_pos rfl]
                  obtain ⟨g1, g2⟩ := h1 hgv
                  refine .inl (call_wp (E := fun x => (evA e x).un) ho hf (g2 H) w0 Γ w a next Q hr (hun g1) ?_)
                  rintro Γ' v r' H' w' k1 k2 k3 ⟨rfl, rfl⟩
                  exact optk h2 hgv Γ' v w' k1 k2 k3
              · cases hgv : g with
                | false =>
                  obtain ⟨r0, h3⟩ := h2 hgv
                  exact skip hgv h3
                | true =>
                  rw [hw, hgv, if_pos rfl]
                  obtain ⟨g1, g2⟩ := h1 hgv
                  refine .inl (call_wp (E := fun x => (evA e x).un) ho hf g2 w0 Γ w a next Q hr (hun g1) ?_)
                  intro Γ' v r' H' w' k1 k2 k3 k4
                  exact optk k4 hgv Γ' v w' k1 k2 k3
            · exact h.elim
          · obtain ⟨h1, h2⟩ := h
            cases hgv : g with
            | false =>
              rw [hw, hgv, if_neg (by simp)]
              exact hk Γ undef _ H w (Gh.Le.refl Γ) (.tup .nil) hr (h2 hgv)
            | true =>
              rw [hw, hgv, if_pos rfl]
              obtain ⟨g1, g2⟩ := h1 hgv
              exact .inl (vcOp_wp g2 w0 Γ w a next Q hr (hun g1) hk)

theorem RE.looks {N : Nat} {ops : Array Oper} {o : Oper} {Γ : Gh} {e : Env} {a : Act} (he : RE N Γ e a) (hok : operOk N ops o = true) : Looks ops o Γ e a := by
  refine ⟨fun x hx => he.eval (opn_of hok x hx), fun j want t hg ht => ?_⟩
  have htN : t < N := by
    unfold operOk at hok
    rw [Bool.and_eq_true, hg] at hok
    simpa [ht] using hok.2
  exact ⟨by rw [he.size]; exact htN, he.val t htN⟩

end Go.Proofs.YtjplcdeaedflpaaGreatDoor.PL

namespace Go.Proofs.YtjplcdeaedflpaaGreatDoor.PL
open Go.RowKit

/-! ### a region whose operations may come in whatever order their edges allow -/
def isRd : Op → Bool
  | .load .. => true
  | op => xR op

def StepG (P : Program) (ops : Array Oper) (i : Nat) (o : Oper) (e : Env) (H : List HO) (r : AV) (H' : List HO) : Prop :=
  ∀ (w0 : Bs) (Γ : Gh) (w : World) (a : Act) (next : Act → World → Prop) (Q : Exit → Act → World → Prop), R w0 Γ H w → Looks ops o Γ e a →
    (∀ Γ' v w', Gh.Le Γ Γ' → VR Γ' r v → R w0 Γ' H' w' → next (a.put o.dst v) w') → wpOp P ops Q i next a w

theorem ps_indep {P : Program} {op : Op} {E : Ev} (h : isRd op = false) (H H' : List HO) : psOp P op E H = psOp P op E H' ∧ pvOp P op E H = pvOp P op E H' := by
  cases op
  case load => simp [isRd] at h
  case call c => obtain ⟨cal, xs, ts⟩ := c; cases cal <;> exact ⟨rfl, rfl⟩
  all_goals exact ⟨rfl, rfl⟩

def pt (r : AV) (H : List HO) : AV → List HO → Prop := fun r' H' => r' = r ∧ H' = H

theorem vcOp0_pt {P : Program} {M : List Nat} {o : Oper} {E : Ev} {H : List HO} {K : AV → List HO → Prop} (h : vcOp0 P M true o E H K) :
    ∃ r H', vcOp0 P M true o E H (pt r H') ∧ K r H' ∧ (isW o.op = false → H' = H) ∧ (isRd o.op = false → isW o.op = false → ∀ H2, vcOp0 P M true o E H2 (pt r H2)) := by
  unfold vcOp0 at h ⊢
  split at h
  · rename_i hp
    simp only [if_pos hp]
    refine ⟨_, H, ⟨h.1, rfl, rfl⟩, h.2, fun _ => rfl, fun hr _ H2 => ?_⟩
    have e := ps_indep (P := P) (E := E) hr H H2
    exact ⟨e.1 ▸ h.1, e.2.symm, rfl⟩
  · rename_i hp
    simp only [if_neg hp]
    split at h
    · rename_i ho
      rw [ho]
      exact ⟨_, H, ⟨h.1, rfl, rfl⟩, h.2, fun _ => rfl, fun _ _ H2 => ⟨h.1, rfl, rfl⟩⟩
    · rename_i ho
      rw [ho]
      refine ⟨_, _, ⟨h.1, rfl, rfl⟩, h.2, ?_, ?_⟩ <;> intro e1 <;> first | (cases e1; done) | (intro e2; cases e2)
    · rename_i ho
      rw [ho]
      split at h
      · rename_i z hz
        try simp only [hz]
        refine ⟨_, _, ⟨h.1, rfl, rfl⟩, h.2, ?_, ?_⟩ <;> intro e1 <;> first | (cases e1; done) | (intro e2; cases e2)
      · exact h.elim
    · rename_i ho
      rw [ho]
      split at h
      · rename_i i off ha
        split at h
        · rename_i cs hi
          try simp only [ha, hi]
          refine ⟨_, _, ⟨h.1, h.2.1, h.2.2.1, rfl, rfl⟩, h.2.2.2, ?_, ?_⟩ <;> intro e1 <;> first | (cases e1; done) | (intro e2; cases e2)
        · exact h.elim
      · rename_i i n off ha
        split at h
        · rename_i m sz cs hi
          obtain ⟨rfl, h⟩ := h
          try simp only [ha, hi]
          refine ⟨_, _, ⟨trivial, h.1, h.2.1, h.2.2.1, rfl, rfl⟩, h.2.2.2, ?_, ?_⟩ <;> intro e1 <;> first | (cases e1; done) | (intro e2; cases e2)
        · exact h.elim
      · exact h.elim
    · rename_i ho
      rw [ho]
      exact ⟨_, H, ⟨rfl, rfl⟩, h, fun _ => rfl, fun _ _ H2 => ⟨rfl, rfl⟩⟩
    · rename_i ho
      rw [ho]
      split at h
      · rename_i f first captured hf
        rw [if_pos rfl] at h
        obtain ⟨r, ht, hk⟩ := h
        try simp only [hf, if_true]
        exact ⟨r, H, ⟨r, ht, rfl, rfl⟩, hk, fun _ => rfl, fun _ _ H2 => ⟨r, ht, rfl, rfl⟩⟩
      · exact h.elim
    · rename_i ho
      rw [ho]
      unfold rangeK at h
      split at h
      · rename_i id hx0
        unfold rgK at h
        split at h
        · rename_i es k hi
          simp only [rangeK, hx0, rgK, hi]
          refine ⟨_, _, ⟨h.1, rfl, rfl⟩, h.2, ?_, ?_⟩ <;> intro e1 <;> first | (cases e1; done) | (intro e2; cases e2)
        · exact h.elim
      · exact h.elim
    · exact absurd h.1 (by simp)
    · exact absurd h.1 (by simp)
    · have hw : isW o.op = false → xW o.op = false := by
        intro e
        unfold isW at e
        split at e <;> first | (cases e; done) | exact e
      have hrd : isRd o.op = false → xR o.op = false := by
        intro e
        unfold isRd at e
        split at e <;> first | (cases e; done) | exact e
      refine ⟨_, _, ⟨h.1, rfl, rfl⟩, h.2, fun e => x_still (hw e), fun e1 e2 H2 => ?_⟩
      have := x_indep (hw e2) (hrd e1) h.1 H2
      exact ⟨this.1, this.2, by rw [x_still (hw e2)]⟩
theorem vcOp_pt {P : Program} {M : List Nat} {o : Oper} {E : Ev} {H : List HO} {K : AV → List HO → Prop} (h : vcOp P M true o E H K) :
    ∃ r H', vcOp P M true o E H (pt r H') ∧ K r H' ∧ (isW o.op = false → H' = H) ∧ (isRd o.op = false → isW o.op = false → ∀ H2, vcOp P M true o E H2 (pt r H2)) := by
  obtain ⟨hm, h⟩ := vcOp_true h
  have e : ∀ H2 K2, vcOp P M true o E H2 K2 = vcOp0 P M true o E H2 K2 := fun H2 K2 => by unfold vcOp; rw [hm]
  obtain ⟨r, H', h1, h2, h3, h4⟩ := vcOp0_pt h
  exact ⟨r, H', by rw [e]; exact h1, h2, h3, fun a b H2 => by rw [e]; exact h4 a b H2⟩

theorem vcG_pt {P : Program} {M : List Nat} {ops : Array Oper} {o : Oper} {e : Env} {H : List HO} {K : AV → List HO → Prop} (h : vcG P M true ops o e H K) :
    ∃ r H', vcG P M true ops o e H (pt r H') ∧ K r H' ∧ (isW o.op = false → H' = H) ∧ (isRd o.op = false → isW o.op = false → ∀ H2, vcG P M true ops o e H2 (pt r H2)) := by
  unfold vcG at h ⊢
  split at h
  · rename_i hg
    try simp only [hg]
    exact vcOp_pt h
  · rename_i j want hg
    try simp only [hg]
    split at h
    · exact h.elim
    · rename_i t ht
      try simp only [ht]
      split at h
      · exact h.elim
      · rename_i g hgb
        try simp only [hgb]
        split at h
        · rename_i hp
          simp only [hp, if_true]
          refine ⟨_, H, ⟨h.1, rfl, rfl⟩, h.2, fun _ => rfl, fun hr _ H2 => ?_⟩
          have e2 := ps_indep (P := P) (E := gE o.op e) hr H H2
          exact ⟨fun hgt => ⟨(h.1 hgt).1, e2.1 ▸ (h.1 hgt).2⟩, by rw [e2.2], rfl⟩
        · rename_i hp
          split at h
          · rename_i x xs ts ho
            rw [ho]
            simp only [isP, Bool.false_eq_true, if_false]
            split at h
            · rename_i f first captured hf
              rcases h with ⟨r, h1, h2⟩ | ⟨hd, _⟩
              · try simp only [hf]
                refine ⟨_, H, .inl ⟨r, ?_, rfl, rfl⟩, h2, fun _ => rfl, fun _ _ H2 => .inl ⟨r, ?_, rfl, rfl⟩⟩ <;> (rw [← ho]; exact h1)
              · cases hd
            · exact h.elim
          · rename_i hne
            obtain ⟨h1, h2⟩ := h
            simp only [if_neg hp]
            cases hgv : g with
            | false =>
              subst hgv
              exact ⟨.tup [], H, ⟨fun x => absurd x (by simp), fun _ => ⟨rfl, rfl⟩⟩, h2 rfl, fun _ => rfl, fun _ _ H2 => ⟨fun x => absurd x (by simp), fun _ => ⟨rfl, rfl⟩⟩⟩
            | true =>
              subst hgv
              obtain ⟨g1, g2⟩ := h1 rfl
              obtain ⟨r, H', k1, k2, k3, k4⟩ := vcOp_pt g2
              exact ⟨r, H', ⟨fun _ => ⟨g1, k1⟩, fun x => absurd x (by simp)⟩, k2, k3, fun a b H2 => ⟨fun _ => ⟨g1, k4 a b H2⟩, fun x => absurd x (by simp)⟩⟩

/-- The chain's one link. -/
theorem vcG_step {P : Program} {M : List Nat} {ops : Array Oper} {o : Oper} {e : Env} {H : List HO} {K : AV → List HO → Prop} {i : Nat} (hi : ops[i]? = some o) (h : vcG P M true ops o e H K) :
    ∃ r H', StepG P ops i o e H r H' ∧ K r H' ∧ (isW o.op = false → H' = H) ∧ (isRd o.op = false → isW o.op = false → ∀ H2, StepG P ops i o e H2 r H2) := by
  have of_G : ∀ {H1 H2 : List HO} {r : AV}, vcG P M true ops o e H1 (pt r H2) → StepG P ops i o e H1 r H2 := by
    intro H1 H2 r hg w0 Γ w a next Q hr hl hk
    refine vcG_wp' hi hg w0 Γ w a next Q hr hl ?_
    rintro Γ' v r' H' w' g1 g2 g3 ⟨rfl, rfl⟩
    exact hk Γ' v w' g1 g2 g3
  obtain ⟨r, H', h1, h2, h3, h4⟩ := vcG_pt h
  exact ⟨r, H', of_G h1, h2, h3, fun a b H2 => of_G (h4 a b H2)⟩

end Go.Proofs.YtjplcdeaedflpaaGreatDoor.PL
