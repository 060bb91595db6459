/- A logic of plain values for functions of the program: what it shows of a function's code holds of each run (part a). -/
import Derived.Calls
import Derived.Test.YtjplcdeaedflpaaGreatDoorProg
import Derived.KernelRfl
import Derived.Lib.SmallJoins
import Derived.Lib.ItoaNum
import Derived.Lib.LaidTab
import Derived.Orders
import Derived.Below
import Derived.Laws.AppendOwn
import Derived.Laws.Cells
import Derived.Laws.OwnMore
import Derived.RowKit
import Derived.Laws.CopyRow
/- A small logic over the machine, laid once for all functions: plain values (`AV`), how they stand in memory (`VR`), and what a call, an operation and a piece of code does to them. No condition. -/
set_option linter.unusedVariables false
set_option linter.unusedSimpArgs false
namespace Go.Proofs.YtjplcdeaedflpaaGreatDoor.PL
open Go.RowKit

/-- May a slice be appended to: unknown, no room behind it, or by a token. -/
inductive Own where
  | no | exact | nil | tok (t : Nat)
  deriving DecidableEq

/-- What is known of package variables when a call begins (a seat that reads them says more: genmain.py). -/
def Glob : World → Prop := fun w => Go.Lib.TabIs Go.Proofs.Tryz.prog w "internal/strconv.uint64pow10" .u64 Go.Lib.pow10Tab
theorem Glob.mono {w w' : World} (h : Glob w) (b : Below w.heap.size w w') : Glob w' := Go.Joins.tab_stays (g := 0) (by kernel_rfl) h b (Nat.le_refl _)
/-- Plain values. -/
inductive AV where
  | any
  | bool (b : Bool)
  | int (k : IntKind) (n : Int)
  | str (s : ByteArray)
  | agg (cs : List AV)
  | tup (vs : List AV)
  | ptr (id : Nat) (off : Nat)
  | nilp
  | ref (cs : List AV)
  | sl (own : Own) (xs : List AV)
  | map (id : Nat)
  | nilm
  | fn (f : Fn) (first captured : List AV)
  | nilf
  | nili
  | iface (t : TypeId) (v : AV)
  | opt (b : Bool) (x : AV)
  | mv (id n sz off len : Nat)
  | eptr (id n off : Nat)
  | ub

def AV.cells : AV → List AV
  | .agg cs => cs
  | v => [v]

/-- Does it take one cell? -/
def AV.one : AV → Bool
  | .any | .agg _ | .tup _ | .opt _ _ => false
  | _ => true
def AV.ones (xs : List AV) : Prop := ∀ x, x ∈ xs → x.one = true

/-- What is known of memory: cells that stay, the blocks of variables and maps, the rows of slices that grow. -/
structure Gh where
  I : Nat → Nat → Option Value
  B : Nat → Option Nat
  T : Nat → Nat → Option (Nat × Nat)

structure Gh.Le (Γ Δ : Gh) : Prop where
  I : ∀ b o v, Γ.I b o = some v → Δ.I b o = some v
  B : ∀ i b, Γ.B i = some b → Δ.B i = some b
  T : ∀ t n p, Γ.T t n = some p → Δ.T t n = some p

theorem Gh.Le.refl (Γ : Gh) : Gh.Le Γ Γ := ⟨fun _ _ _ h => h, fun _ _ h => h, fun _ _ _ h => h⟩
theorem Gh.Le.trans {a b c : Gh} (h : Gh.Le a b) (k : Gh.Le b c) : Gh.Le a c :=
  ⟨fun _ _ _ x => k.I _ _ _ (h.I _ _ _ x), fun _ _ x => k.B _ _ (h.B _ _ x), fun _ _ _ x => k.T _ _ _ (h.T _ _ _ x)⟩

/-- The cells from a place on that stay. -/
def Gh.At (Γ : Gh) (b o : Nat) (vs : List Value) : Prop := ∀ i v, vs[i]? = some v → Γ.I b (o + i) = some v

def Own.fits (Γ : Gh) (own : Own) (n : Nat) (a : Option Addr) (cap : Nat) : Prop :=
  match own with
  | .no => True
  | .exact => cap = n
  | .nil => cap = n ∧ a = none
  | .tok t => ∃ b, a = some ⟨b, 0, none⟩ ∧ Γ.T t n = some (b, cap)

mutual
/-- A plain value, and the machine's. -/
inductive VR (Γ : Gh) : AV → Value → Prop
  | any (v : Value) : VR Γ .any v
  | bool (b : Bool) : VR Γ (.bool b) (.bool b)
  | int (k : IntKind) (n : Int) : VR Γ (.int k n) (.int k n)
  | str (s : ByteArray) : VR Γ (.str s) (.string s)
  | agg {cs : List AV} {vs : List Value} (h1 : AV.ones cs) (h : VRs Γ cs vs) : VR Γ (.agg cs) (.agg vs.toArray)
  | tup {cs : List AV} {vs : List Value} (h : VRs Γ cs vs) : VR Γ (.tup cs) (.tuple vs.toArray)
  | ptr {id off b : Nat} (h : Γ.B id = some b) : VR Γ (.ptr id off) (.pointer (some ⟨b, off, none⟩))
  | nilp : VR Γ .nilp (.pointer none)
  | ref {cs : List AV} {vs : List Value} {b o : Nat} (h1 : AV.ones cs) (h : VRs Γ cs vs) (hi : Γ.At b o vs) : VR Γ (.ref cs) (.pointer (some ⟨b, o, none⟩))
  | sl0 {own : Own} {a : Option Addr} {cap : Nat} (ho : own.fits Γ 0 a cap) : VR Γ (.sl own []) (.slice a 0 cap)
  | sl {own : Own} {xs : List AV} {vs : List Value} {b o cap n sz : Nat} (hn : n = xs.length) (hs : ∀ x, x ∈ xs → x.cells.length = sz) (h1 : AV.ones (xs.flatMap AV.cells)) (h : VRs Γ (xs.flatMap AV.cells) vs) (hi : Γ.At b o vs)
      (ho : own.fits Γ n (some ⟨b, o, none⟩) cap) (hc : n ≤ cap) : VR Γ (.sl own xs) (.slice (some ⟨b, o, none⟩) n cap)
  | map {id b : Nat} (h : Γ.B id = some b) : VR Γ (.map id) (.map (some b))
  | nilm : VR Γ .nilm (.map none)
  | fn {f : Fn} {first captured : List AV} {us vs : List Value} (h : VRs Γ first us) (h' : VRs Γ captured vs) : VR Γ (.fn f first captured) (.func f us.toArray vs.toArray)
  | nilf : VR Γ .nilf .nilFunc
  | nili : VR Γ .nili .nilIface
  | iface {t : TypeId} {x : AV} {v : Value} (h : VR Γ x v) : VR Γ (.iface t x) (.iface t v)
  | opt {b : Bool} {x : AV} {v : Value} (h : b = true → VR Γ x v) (h' : b = false → v = undef) : VR Γ (.opt b x) v
  | mv {id n sz off len b cap o : Nat} (h : Γ.T id n = some (b, cap)) (hl : off + len ≤ n) (hc : n ≤ cap) (ho : off < cap → o = off * sz) : VR Γ (.mv id n sz off len) (.slice (some ⟨b, o, none⟩) len (cap - off))
  | eptr {id n off b cap : Nat} (h : Γ.T id n = some (b, cap)) : VR Γ (.eptr id n off) (.pointer (some ⟨b, off, none⟩))
  | ub (b : Bool) : VR Γ .ub (.bool b)
inductive VRs (Γ : Gh) : List AV → List Value → Prop
  | nil : VRs Γ [] []
  | cons {x : AV} {v : Value} {xs : List AV} {vs : List Value} (h : VR Γ x v) (t : VRs Γ xs vs) : VRs Γ (x :: xs) (v :: vs)
end

theorem Own.fits.mono {Γ Δ : Gh} (h : Gh.Le Γ Δ) {own : Own} {n : Nat} {a : Option Addr} {cap : Nat} (ho : own.fits Γ n a cap) : own.fits Δ n a cap := by
  cases own with
  | no => trivial
  | exact => exact ho
  | nil => exact ho
  | tok t => obtain ⟨b, h1, h2⟩ := ho; exact ⟨b, h1, h.T _ _ _ h2⟩

theorem Gh.At.mono {Γ Δ : Gh} (h : Gh.Le Γ Δ) {b o : Nat} {vs : List Value} (hi : Γ.At b o vs) : Δ.At b o vs := fun i v hv => h.I _ _ _ (hi i v hv)

mutual
theorem VR.mono {Γ Δ : Gh} (h : Gh.Le Γ Δ) {x : AV} {v : Value} (r : VR Γ x v) : VR Δ x v :=
  match r with
  | .any v => .any v
  | .bool b => .bool b
  | .int k n => .int k n
  | .str s => .str s
  | .agg h1 r => .agg h1 (VRs.mono h r)
  | .tup r => .tup (VRs.mono h r)
  | .ptr r => .ptr (h.B _ _ r)
  | .nilp => .nilp
  | .ref h1 r hi => .ref h1 (VRs.mono h r) (hi.mono h)
  | .sl0 ho => .sl0 (ho.mono h)
  | .sl hn hs h1 r hi ho hc => .sl hn hs h1 (VRs.mono h r) (hi.mono h) (ho.mono h) hc
  | .map r => .map (h.B _ _ r)
  | .nilm => .nilm
  | .fn r r' => .fn (VRs.mono h r) (VRs.mono h r')
  | .nilf => .nilf
  | .nili => .nili
  | .iface r => .iface (VR.mono h r)
  | .opt r r' => .opt (fun e => VR.mono h (r e)) r'
  | .mv r hl hc ho => .mv (h.T _ _ _ r) hl hc ho
  | .eptr r => .eptr (h.T _ _ _ r)
  | .ub b => .ub b
theorem VRs.mono {Γ Δ : Gh} (h : Gh.Le Γ Δ) {xs : List AV} {vs : List Value} (r : VRs Γ xs vs) : VRs Δ xs vs :=
  match r with
  | .nil => .nil
  | .cons r t => .cons (VR.mono h r) (VRs.mono h t)
end

theorem VRs.length {Γ : Gh} : ∀ {xs : List AV} {vs : List Value}, VRs Γ xs vs → xs.length = vs.length
  | _, _, .nil => rfl
  | _, _, .cons _ t => by simp [VRs.length t]

theorem VRs.get {Γ : Gh} : ∀ {xs : List AV} {vs : List Value}, VRs Γ xs vs → ∀ (i : Nat) (x : AV), xs[i]? = some x → ∃ v, vs[i]? = some v ∧ VR Γ x v
  | _, _, .nil, i, x, h => by simp at h
  | _, _, .cons (v := v) r t, 0, x, h => by simp at h; subst h; exact ⟨v, by simp, r⟩
  | _, _, .cons r t, i + 1, x, h => by
    simp at h
    obtain ⟨v, hv, hr⟩ := VRs.get t i x h
    exact ⟨v, by simpa using hv, hr⟩

theorem VRs.append {Γ : Gh} : ∀ {xs : List AV} {us : List Value} {ys : List AV} {vs : List Value}, VRs Γ xs us → VRs Γ ys vs → VRs Γ (xs ++ ys) (us ++ vs)
  | _, _, _, _, .nil, k => k
  | _, _, _, _, .cons r t, k => .cons r (VRs.append t k)

theorem VRs.drop {Γ : Gh} : ∀ {xs : List AV} {vs : List Value}, VRs Γ xs vs → ∀ n, VRs Γ (xs.drop n) (vs.drop n)
  | _, _, h, 0 => h
  | _, _, .nil, n + 1 => .nil
  | _, _, .cons _ t, n + 1 => VRs.drop t n

theorem VRs.take {Γ : Gh} : ∀ {xs : List AV} {vs : List Value}, VRs Γ xs vs → ∀ n, VRs Γ (xs.take n) (vs.take n)
  | _, _, h, 0 => .nil
  | _, _, .nil, n + 1 => .nil
  | _, _, .cons r t, n + 1 => .cons r (VRs.take t n)

theorem VRs.set {Γ : Gh} {x : AV} {v : Value} (r : VR Γ x v) : ∀ {xs : List AV} {vs : List Value}, VRs Γ xs vs → ∀ n, VRs Γ (xs.set n x) (vs.set n v)
  | _, _, .nil, n => .nil
  | _, _, .cons _ t, 0 => .cons r t
  | _, _, .cons r' t, n + 1 => .cons r' (VRs.set r t n)

/-- A value's cells. -/
def AV.un : AV → AV
  | .opt _ x => x
  | x => x
def AV.optB : AV → Bool
  | .opt b _ => b
  | _ => true
theorem VR.un {Γ : Gh} {x : AV} {v : Value} (r : VR Γ x v) (h : x.optB = true) : VR Γ x.un v := by
  cases r <;> first | (constructor <;> assumption) | skip
  case opt h1 h2 => exact h1 h

theorem VR.cells {Γ : Gh} {x : AV} {v : Value} (r : VR Γ x v) (hx : x ≠ .any) (hp : ∀ b y, x ≠ .opt b y) : VRs Γ x.cells v.cells.toList := by
  cases r with
  | any v => exact absurd rfl hx
  | agg h1 h => simpa [AV.cells, Value.cells] using h
  | bool b => exact .cons (.bool b) .nil
  | int k n => exact .cons (.int k n) .nil
  | str s => exact .cons (.str s) .nil
  | tup h => exact .cons (.tup h) .nil
  | ptr h => exact .cons (.ptr h) .nil
  | nilp => exact .cons .nilp .nil
  | ref h1 h hi => exact .cons (.ref h1 h hi) .nil
  | sl0 ho => exact .cons (.sl0 ho) .nil
  | sl hn hs h1 h hi ho hc => exact .cons (.sl hn hs h1 h hi ho hc) .nil
  | map h => exact .cons (.map h) .nil
  | nilm => exact .cons .nilm .nil
  | fn h h' => exact .cons (.fn h h') .nil
  | nilf => exact .cons .nilf .nil
  | nili => exact .cons .nili .nil
  | iface h => exact .cons (.iface h) .nil
  | opt h h' => exact absurd rfl (hp _ _)
  | mv h hl hc ho => exact .cons (.mv h hl hc ho) .nil
  | eptr h => exact .cons (.eptr h) .nil
  | ub b => exact .cons (.ub b) .nil

theorem VR.one {Γ : Gh} {x : AV} {v : Value} (r : VR Γ x v) (hx : x.one = true) : v.oneCell' = true := by
  cases r <;> first | rfl | (simp [AV.one] at hx)

theorem VRs.one {Γ : Gh} : ∀ {xs : List AV} {vs : List Value}, VRs Γ xs vs → AV.ones xs → ∀ v, v ∈ vs → v.oneCell' = true
  | _, _, .nil, _, v, hv => by cases hv
  | _, _, .cons r t, h1, v, hv => by
    cases hv with
    | head => exact r.one (h1 _ (List.mem_cons_self ..))
    | tail _ hv => exact VRs.one t (fun x hx => h1 x (List.mem_cons_of_mem _ hx)) v hv

/-- A value that is told takes its cells one by one. -/
theorem VR.ones {Γ : Gh} {x : AV} {v : Value} (r : VR Γ x v) (hx : x ≠ .any) (ht : ∀ vs, x ≠ .tup vs) (ho : ∀ b y, x ≠ .opt b y) : AV.ones x.cells := by
  intro y hy
  cases r with
  | any v => exact absurd rfl hx
  | agg h1 h => exact h1 y hy
  | tup h => exact absurd rfl (ht _)
  | opt h h' => exact absurd rfl (ho _ _)
  | _ => simp [AV.cells] at hy; subst hy; rfl

end Go.Proofs.YtjplcdeaedflpaaGreatDoor.PL

namespace Go.Proofs.YtjplcdeaedflpaaGreatDoor.PL
open Go.RowKit

/-- What a call has made and may still change. -/
inductive HO where
  | dead
  | gone
  | box (cs : List AV)
  | mp (es : List (AV × AV)) (c : Option Nat)
  | spare (n sz : Nat)
  | row (n sz : Nat) (cs : List AV)
  | it (m k n : Nat) (seen : List Nat)
  | raw (x : Obj)

def HO.live : HO → Bool
  | .dead => false
  | .gone => false
  | _ => true

inductive VRm (Γ : Gh) : List (AV × AV) → List MapEntry → Prop
  | nil : VRm Γ [] []
  | cons {k v : AV} {e : MapEntry} {xs : List (AV × AV)} {es : List MapEntry} (hk : VR Γ k e.key) (hv : VR Γ v e.val) (t : VRm Γ xs es) : VRm Γ ((k, v) :: xs) (e :: es)

theorem VRm.mono {Γ Δ : Gh} (h : Gh.Le Γ Δ) : ∀ {xs : List (AV × AV)} {es : List MapEntry}, VRm Γ xs es → VRm Δ xs es
  | _, _, .nil => .nil
  | _, _, .cons hk hv t => .cons (hk.mono h) (hv.mono h) (VRm.mono h t)

/-- How an object stands in memory, at its block. -/
def HO.at (Γ : Gh) (w : World) (i b : Nat) : HO → Prop
  | .dead => True
  | .gone => True
  | .box cs => Γ.B i = some b ∧ (∃ vals e, w.heap[b]? = some (.cells vals e (0, 0)) ∧ VRs Γ cs vals.toList) ∧ AV.ones cs ∧ ∀ o, Γ.I b o = none
  | .mp es c => Γ.B i = some b ∧ (∃ ents clock, w.heap[b]? = some (.map ents clock) ∧ VRm Γ es ents.toList ∧ ∀ k, c = some k → clock = k + es.length ∧ ents.toList.map (·.born) = List.range' k es.length) ∧ ∀ o, Γ.I b o = none
  | .spare n sz => (∃ cap cur e, Γ.T i n = some (b, cap) ∧ w.heap[b]? = some (.cells cur e (0, 0)) ∧ cur.size = cap * sz ∧ cap ≤ maxLen ∧ n ≤ cap) ∧ (∀ o, n * sz ≤ o → Γ.I b o = none) ∧ ∀ m, n < m → Γ.T i m = none
  | .row n sz cs => (∃ cap cur e, Γ.T i n = some (b, cap) ∧ w.heap[b]? = some (.cells cur e (0, 0)) ∧ cur.size = cap * sz ∧ cap ≤ maxLen ∧ n ≤ cap ∧ VRs Γ cs (cur.toList.take (n * sz))) ∧ AV.ones cs ∧ (∀ o, Γ.I b o = none) ∧ ∀ m, n < m → Γ.T i m = none
  | .it m k n seen => Γ.B i = some b ∧ (∃ mb sa, Γ.B m = some mb ∧ w.heap[b]? = some (.mapIter (some mb) (k + n) sa (k + n)) ∧ sa.toList = seen.map (k + ·)) ∧ ∀ o, Γ.I b o = none
  | .raw x => Γ.B i = some b ∧ w.heap[b]? = some x ∧ ∀ o, Γ.I b o = none

/-- Where a call began: the world, and the cells that stayed. -/
structure Bs where
  w : World
  I : Nat → Nat → Option Value

/-- Memory, as it is told. -/
structure R (w0 : Bs) (Γ : Gh) (H : List HO) (w : World) : Prop where
  glo : Glob w0.w
  below : Below w0.w.heap.size w0.w w
  imm : ∀ b o v, Γ.I b o = some v → w.cell? ⟨b, o, none⟩ = some v
  obj : ∃ bs : Nat → Nat, (∀ i h, H[i]? = some h → h.live = true → w0.w.heap.size ≤ bs i ∧ h.at Γ w i (bs i)) ∧
    ∀ i j h k, H[i]? = some h → H[j]? = some k → h.live = true → k.live = true → i ≠ j → bs i ≠ bs j
  fresh : ∀ i, H.length ≤ i → Γ.B i = none ∧ ∀ n, Γ.T i n = none
  old : ∀ b o v, b < w0.w.heap.size → Γ.I b o = some v → w0.I b o = some v
  resv : ∀ i, H[i]? = some .dead → Γ.B i = none ∧ ∀ n, Γ.T i n = none

theorem HO.at.block_lt {Γ : Gh} {w : World} {i b : Nat} {h : HO} (hl : h.live = true) (ha : h.at Γ w i b) : b < w.heap.size := by
  cases h with
  | dead => cases hl
  | gone => cases hl
  | box cs => obtain ⟨_, ⟨vals, e, hb, _⟩, _⟩ := ha; exact (Array.getElem?_eq_some_iff.1 hb).1
  | mp es c => obtain ⟨_, ⟨vals, e, hb, _⟩, _⟩ := ha; exact (Array.getElem?_eq_some_iff.1 hb).1
  | spare n sz => obtain ⟨⟨cap, cur, e, _, hb, _⟩, _⟩ := ha; exact (Array.getElem?_eq_some_iff.1 hb).1
  | row n sz cs => obtain ⟨⟨cap, cur, e, _, hb, _⟩, _⟩ := ha; exact (Array.getElem?_eq_some_iff.1 hb).1
  | it m k n seen => obtain ⟨_, ⟨mb, sa, _, hb, _⟩, _⟩ := ha; exact (Array.getElem?_eq_some_iff.1 hb).1
  | raw x => exact (Array.getElem?_eq_some_iff.1 ha.2.1).1

theorem HO.at.kept {Γ Δ : Gh} {w w' : World} {i b : Nat} {h : HO} (ha : h.at Γ w i b) (le : Gh.Le Γ Δ) (hb : w'.heap[b]? = w.heap[b]?)
    (hI : ∀ o, Γ.I b o = none → Δ.I b o = none) (hT : ∀ m, Γ.T i m = none → Δ.T i m = none) : h.at Δ w' i b := by
  cases h with
  | dead => trivial
  | gone => trivial
  | box cs => obtain ⟨h1, ⟨vals, e, h2, h3⟩, h4, h5⟩ := ha; exact ⟨le.B _ _ h1, ⟨vals, e, hb.trans h2, h3.mono le⟩, h4, fun o => hI o (h5 o)⟩
  | mp es c => obtain ⟨h1, ⟨vals, e, h2, h3, h4⟩, h5⟩ := ha; exact ⟨le.B _ _ h1, ⟨vals, e, hb.trans h2, h3.mono le, h4⟩, fun o => hI o (h5 o)⟩
  | spare n sz =>
    obtain ⟨⟨cap, cur, e, h1, h2, h3⟩, h4, h5⟩ := ha
    exact ⟨⟨cap, cur, e, le.T _ _ _ h1, hb.trans h2, h3⟩, fun o ho => hI o (h4 o ho), fun m hm => hT m (h5 m hm)⟩
  | row n sz cs =>
    obtain ⟨⟨cap, cur, e, h1, h2, h3, h6, h7, h8⟩, h9, h4, h5⟩ := ha
    exact ⟨⟨cap, cur, e, le.T _ _ _ h1, hb.trans h2, h3, h6, h7, h8.mono le⟩, h9, fun o => hI o (h4 o), fun m hm => hT m (h5 m hm)⟩
  | it m k n seen => obtain ⟨h1, ⟨mb, sa, h2, h3, h4⟩, h5⟩ := ha; exact ⟨le.B _ _ h1, ⟨mb, sa, le.B _ _ h2, hb.trans h3, h4⟩, fun o => hI o (h5 o)⟩
  | raw x => obtain ⟨h1, h2, h3⟩ := ha; exact ⟨le.B _ _ h1, hb.trans h2, fun o => hI o (h3 o)⟩

theorem cell_lt {w : World} {b o : Nat} {v : Value} (h : w.cell? ⟨b, o, none⟩ = some v) : b < w.heap.size := World.block_lt_of_cell? w ⟨b, o, none⟩ h

/-- New memory beside, more cells that stay there: what was told is told. -/
theorem R.more {w0 : Bs} {Γ Δ : Gh} {H : List HO} {w w' : World} (r : R w0 Γ H w) (hb : Below w.heap.size w w') (le : Gh.Le Γ Δ)
    (hI : ∀ b o v, Δ.I b o = some v → Γ.I b o = some v ∨ (w.heap.size ≤ b ∧ w'.cell? ⟨b, o, none⟩ = some v)) (hB : Δ.B = Γ.B) (hT : Δ.T = Γ.T) : R w0 Δ H w' := by
  obtain ⟨hglo, hbel, himm, ⟨bs, hobj, hdis⟩, hfr, hold, hrv⟩ := r
  refine ⟨hglo, hbel.trans (hb.mono hbel.size), ?_, ⟨bs, ?_, hdis⟩, fun i hi => by rw [hB, hT]; exact hfr i hi, fun b o v hb h => by
    rcases hI b o v h with h | ⟨h, _⟩
    · exact hold b o v hb h
    · have := hbel.size; omega, fun i hi => by rw [hB, hT]; exact hrv i hi⟩
  · intro b o v h
    rcases hI b o v h with h | ⟨_, h⟩
    · have := himm b o v h
      rw [hb.cell (p := ⟨b, o, none⟩) (cell_lt this)]; exact this
    · exact h
  · intro i h hi hl
    obtain ⟨h1, h2⟩ := hobj i h hi hl
    have hlt := h2.block_lt hl
    refine ⟨h1, h2.kept le (hb.block _ hlt) ?_ (fun m hm => by rw [hT]; exact hm)⟩
    intro o ho
    cases hd : Δ.I (bs i) o with
    | none => rfl
    | some v =>
      rcases hI _ _ _ hd with h | ⟨h, _⟩
      · rw [ho] at h; cases h
      · omega

/-- A draw. -/
theorem R.drew {w0 : Bs} {Γ : Gh} {H : List HO} {w w' : World} (r : R w0 Γ H w) (hb : Below w.heap.size w w') : R w0 Γ H w' :=
  r.more hb (Gh.Le.refl Γ) (fun _ _ _ h => .inl h) rfl rfl

theorem R.size {w0 : Bs} {Γ : Gh} {H : List HO} {w : World} (r : R w0 Γ H w) {i b : Nat} (h : Γ.B i = some b) : i < H.length := by
  rcases Nat.lt_or_ge i H.length with hi | hi
  · exact hi
  · rw [(r.fresh i hi).1] at h; cases h

def Gh.addB (Γ : Gh) (i b : Nat) : Gh := { Γ with B := fun j => if j = i then some b else Γ.B j }
theorem Gh.le_addB {Γ : Gh} {i b : Nat} (h : Γ.B i = none) : Gh.Le Γ (Γ.addB i b) :=
  ⟨fun _ _ _ h => h, fun j c hj => by by_cases e : j = i <;> simp_all [Gh.addB], fun _ _ _ h => h⟩

theorem heap_new (w : World) (o : Obj) : (w.alloc o).heap[w.heap.size]? = some o := by
  show (w.heap.push o)[w.heap.size]? = some o
  simp
theorem heap_old (w : World) (o : Obj) {k : Nat} (h : k < w.heap.size) : (w.alloc o).heap[k]? = w.heap[k]? := by
  show (w.heap.push o)[k]? = _
  rw [Array.getElem?_push, if_neg (by omega)]
theorem below_alloc (w : World) (o : Obj) : Below w.heap.size w (w.alloc o) := (Below.refl _ _).alloc (Nat.le_refl _) o

theorem R.noI {w0 : Bs} {Γ : Gh} {H : List HO} {w : World} (r : R w0 Γ H w) (o : Nat) : Γ.I w.heap.size o = none := by
  cases hd : Γ.I w.heap.size o with
  | none => rfl
  | some v => have := cell_lt (r.imm _ _ _ hd); omega

/-- A new object, in a block that is new. -/
theorem R.push {w0 : Bs} {Γ Δ : Gh} {H : List HO} {w w' : World} (r : R w0 Γ H w) (h' : HO) (b : Nat) (hb : Below w.heap.size w w') (le : Gh.Le Γ Δ) (hn : w.heap.size ≤ b)
    (hat : h'.live = true → h'.at Δ w' H.length b)
    (hI : ∀ c o v, Δ.I c o = some v → Γ.I c o = some v ∨ (w.heap.size ≤ c ∧ w'.cell? ⟨c, o, none⟩ = some v))
    (hB : ∀ i, i ≠ H.length → Δ.B i = Γ.B i) (hT : ∀ i, i ≠ H.length → Δ.T i = Γ.T i) (hlv : h'.live = true) : R w0 Δ (H ++ [h']) w' := by
  obtain ⟨hglo, hbel, himm, ⟨bs, hobj, hdis⟩, hfrs, hold, hrv⟩ := r
  have keep : ∀ i h, H[i]? = some h → h.live = true → i < H.length ∧ bs i < w.heap.size ∧ w0.w.heap.size ≤ bs i ∧ h.at Δ w' i (bs i) := by
    intro i h hi hl
    have hlt := (List.getElem?_eq_some_iff.1 hi).1
    obtain ⟨h2, h3⟩ := hobj i h hi hl
    have hbl := h3.block_lt hl
    refine ⟨hlt, hbl, h2, h3.kept le (hb.block _ hbl) ?_ (fun m hm => by rw [hT i (by omega)]; exact hm)⟩
    intro o ho
    cases hd : Δ.I (bs i) o with
    | none => rfl
    | some v =>
      rcases hI _ _ _ hd with h | ⟨h, _⟩
      · rw [ho] at h; cases h
      · omega
  have split : ∀ i h, (H ++ [h'])[i]? = some h → (i < H.length ∧ H[i]? = some h) ∨ (i = H.length ∧ h = h') := by
    intro i h hi
    rcases Nat.lt_or_ge i H.length with hlt | hge
    · rw [List.getElem?_append_left hlt] at hi; exact .inl ⟨hlt, hi⟩
    · have hl := (List.getElem?_eq_some_iff.1 hi).1
      simp at hl
      have e : i = H.length := by omega
      subst e
      rw [List.getElem?_append_right (Nat.le_refl _)] at hi
      simp at hi
      exact .inr ⟨rfl, hi.symm⟩
  refine ⟨hglo, hbel.trans (hb.mono hbel.size), ?_, ⟨fun i => if i = H.length then b else bs i, ?_, ?_⟩, ?_, fun c o v hc h => by
    rcases hI c o v h with h | ⟨h, _⟩
    · exact hold c o v hc h
    · have := hbel.size; omega, fun i hi => by
    rcases split i _ hi with ⟨hlt, hi⟩ | ⟨rfl, e⟩
    · rw [hB i (by omega), hT i (by omega)]; exact hrv i hi
    · rw [← e] at hlv; cases hlv⟩
  · intro c o v hv
    rcases hI c o v hv with h | ⟨_, h⟩
    · have := himm c o v h
      rw [hb.cell (p := ⟨c, o, none⟩) (cell_lt this)]; exact this
    · exact h
  · intro i h hi hl
    dsimp only
    rcases split i h hi with ⟨hlt, hi⟩ | ⟨rfl, rfl⟩
    · obtain ⟨_, _, h2, h3⟩ := keep i h hi hl
      rw [if_neg (by omega)]
      exact ⟨h2, h3⟩
    · rw [if_pos rfl]
      exact ⟨Nat.le_trans hbel.size hn, hat hl⟩
  · intro i j h k hi hj hl hk hne
    dsimp only
    rcases split i h hi with ⟨hlt, hi⟩ | ⟨rfl, rfl⟩
    · obtain ⟨_, hbi, _, _⟩ := keep i h hi hl
      rw [if_neg (by omega)]
      rcases split j k hj with ⟨hlt', hj⟩ | ⟨rfl, rfl⟩
      · rw [if_neg (by omega)]
        exact hdis i j h k hi hj hl hk hne
      · rw [if_pos rfl]; omega
    · rw [if_pos rfl]
      rcases split j k hj with ⟨hlt', hj⟩ | ⟨rfl, rfl⟩
      · obtain ⟨_, hbj, _, _⟩ := keep j k hj hk
        rw [if_neg (by omega)]; omega
      · exact absurd rfl hne
  · intro i hi
    simp at hi
    rw [hB i (by omega), hT i (by omega)]
    exact hfrs i (by omega)

/-- An object that turns, in its block or on to a new one. -/
theorem R.put {w0 : Bs} {Γ : Gh} {H : List HO} {w : World} (r : R w0 Γ H w) {i : Nat} {h : HO} (hi : H[i]? = some h) (hl : h.live = true) :
    ∃ b, w0.w.heap.size ≤ b ∧ b < w.heap.size ∧ h.at Γ w i b ∧ ∀ (h' : HO) (b' : Nat) (Δ : Gh) (w' : World), w.grownBy w' (some b) → Gh.Le Γ Δ → (b' = b ∨ w.heap.size ≤ b') →
      (h'.live = true → h'.at Δ w' i b') →
      (∀ c o v, Δ.I c o = some v → (Γ.I c o = some v ∧ c ≠ b) ∨ ((c = b ∨ w.heap.size ≤ c) ∧ w'.cell? ⟨c, o, none⟩ = some v)) →
      (∀ j, Δ.B j = Γ.B j) → (∀ j, j ≠ i → Δ.T j = Γ.T j) → h'.live = true → R w0 Δ (H.set i h') w' := by
  obtain ⟨hglo, hbel, himm, ⟨bs, hobj, hdis⟩, hfrs, hold, hrv⟩ := r
  obtain ⟨hw, ha⟩ := hobj i h hi hl
  have hblt := ha.block_lt hl
  have hlen := (List.getElem?_eq_some_iff.1 hi).1
  refine ⟨bs i, hw, hblt, ha, ?_⟩
  intro h' b' Δ w' hg le hb' hat hI hB hT hlv
  have keep : ∀ j k, j ≠ i → H[j]? = some k → k.live = true → bs j < w.heap.size ∧ bs j ≠ bs i ∧ w0.w.heap.size ≤ bs j ∧ k.at Δ w' j (bs j) := by
    intro j k hne hj hk
    obtain ⟨h2, h3⟩ := hobj j k hj hk
    have hbl := h3.block_lt hk
    have hd := hdis j i k h hj hi hk hl hne
    refine ⟨hbl, hd, h2, h3.kept le (hg.block _ hbl (by simpa using hd)) ?_ (fun m hm => by rw [hT j hne]; exact hm)⟩
    intro o ho
    cases hx : Δ.I (bs j) o with
    | none => rfl
    | some v =>
      rcases hI _ _ _ hx with ⟨h, _⟩ | ⟨h, _⟩
      · rw [ho] at h; cases h
      · rcases h with h | h
        · exact absurd h hd
        · omega
  have split : ∀ j k, (H.set i h')[j]? = some k → (j ≠ i ∧ H[j]? = some k) ∨ (j = i ∧ k = h') := by
    intro j k hj
    by_cases e : j = i
    · subst e
      rw [List.getElem?_set_self hlen] at hj
      simp at hj
      exact .inr ⟨rfl, hj.symm⟩
    · rw [List.getElem?_set_ne (fun x => e x.symm)] at hj
      exact .inl ⟨e, hj⟩
  refine ⟨hglo, hbel.grown hg hbel.size (fun k hk => by cases hk; exact hw), ?_, ⟨fun j => if j = i then b' else bs j, ?_, ?_⟩, ?_, fun c o v hc h => by
    rcases hI c o v h with ⟨h, _⟩ | ⟨h, _⟩
    · exact hold c o v hc h
    · have := hbel.size; rcases h with h | h <;> omega, fun j hj => by
    rcases split j _ hj with ⟨hne, hj⟩ | ⟨rfl, e⟩
    · rw [hB j, hT j hne]; exact hrv j hj
    · rw [← e] at hlv; cases hlv⟩
  · intro c o v hv
    rcases hI c o v hv with ⟨h, hne⟩ | ⟨_, h⟩
    · have := himm c o v h
      rw [World.cell?_of_block (hg.block c (cell_lt this) (by simpa using hne))]; exact this
    · exact h
  · intro j k hj hk
    dsimp only
    rcases split j k hj with ⟨hne, hj⟩ | ⟨rfl, rfl⟩
    · rw [if_neg hne]
      obtain ⟨_, _, h2, h3⟩ := keep j k hne hj hk
      exact ⟨h2, h3⟩
    · rw [if_pos rfl]
      have := hbel.size
      exact ⟨by rcases hb' with h | h <;> omega, hat hk⟩
  · intro j l k m hj hl' hk hm hne
    dsimp only
    rcases split j k hj with ⟨hji, hj⟩ | ⟨rfl, rfl⟩
    · rw [if_neg hji]
      obtain ⟨h1, h2, _, _⟩ := keep j k hji hj hk
      rcases split l m hl' with ⟨hli, hl'⟩ | ⟨rfl, rfl⟩
      · rw [if_neg hli]; exact hdis j l k m hj hl' hk hm hne
      · rw [if_pos rfl]; rcases hb' with h | h <;> omega
    · rw [if_pos rfl]
      rcases split l m hl' with ⟨hli, hl'⟩ | ⟨rfl, rfl⟩
      · rw [if_neg hli]
        obtain ⟨h1, h2, _, _⟩ := keep l m hli hl' hm
        rcases hb' with h | h <;> omega
      · exact absurd rfl hne
  · intro j hj
    simp at hj
    rw [hB j, hT j (by omega)]
    exact hfrs j hj

/-- A new variable. -/
theorem R.newBox {w0 : Bs} {Γ : Gh} {H : List HO} {w : World} (r : R w0 Γ H w) {cs : List AV} {vals : Array Value} (e : TypeId) (h : VRs Γ cs vals.toList) (h1 : AV.ones cs) :
    R w0 (Γ.addB H.length w.heap.size) (H ++ [.box cs]) (w.alloc (.cells vals e)) := by
  have le := Gh.le_addB (b := w.heap.size) (r.fresh H.length (Nat.le_refl _)).1
  refine r.push _ w.heap.size (below_alloc w _) le (Nat.le_refl _) ?_ (fun c o v h => .inl h) (fun i hi => by simp [Gh.addB, hi]) (fun i hi => rfl) rfl
  intro _
  exact ⟨by simp [Gh.addB], ⟨vals, e, heap_new w _, h.mono le⟩, h1, fun o => r.noI o⟩

/-- A new map. -/
theorem R.newMap {w0 : Bs} {Γ : Gh} {H : List HO} {w : World} (r : R w0 Γ H w) : R w0 (Γ.addB H.length w.heap.size) (H ++ [.mp [] (some 0)]) (w.alloc (.map #[] 0)) := by
  have le := Gh.le_addB (b := w.heap.size) (r.fresh H.length (Nat.le_refl _)).1
  refine r.push _ w.heap.size (below_alloc w _) le (Nat.le_refl _) ?_ (fun c o v h => .inl h) (fun i hi => by simp [Gh.addB, hi]) (fun i hi => rfl) rfl
  intro _
  exact ⟨by simp [Gh.addB], ⟨#[], 0, heap_new w _, .nil, fun k hk => by cases hk; simp⟩, fun o => r.noI o⟩

def Gh.addI (Γ : Gh) (b : Nat) (vs : List Value) : Gh := { Γ with I := fun c o => if c = b then vs[o]? else Γ.I c o }

theorem R.le_addI {w0 : Bs} {Γ : Gh} {H : List HO} {w : World} (r : R w0 Γ H w) (vs : List Value) : Gh.Le Γ (Γ.addI w.heap.size vs) :=
  ⟨fun b o v h => by
    by_cases e : b = w.heap.size
    · subst e; rw [r.noI] at h; cases h
    · simp only [Gh.addI]; rw [if_neg e]; exact h, fun _ _ h => h, fun _ _ _ h => h⟩

/-- A new row whose cells stay. -/
theorem R.newRow {w0 : Bs} {Γ : Gh} {H : List HO} {w : World} (r : R w0 Γ H w) (vals : Array Value) (e : TypeId) :
    R w0 (Γ.addI w.heap.size vals.toList) H (w.alloc (.cells vals e)) := by
  refine r.more (below_alloc w _) (r.le_addI _) ?_ rfl rfl
  intro b o v h
  by_cases eb : b = w.heap.size
  · subst eb
    simp only [Gh.addI, if_pos] at h
    refine .inr ⟨Nat.le_refl _, ?_⟩
    rw [World.cell?_alloc_new]
    simpa using h
  · simp only [Gh.addI] at h
    rw [if_neg eb] at h
    exact .inl h

theorem Gh.at_addI (Γ : Gh) (b : Nat) (vs : List Value) : (Γ.addI b vs).At b 0 vs := by
  intro i v hv
  simp only [Gh.addI, Nat.zero_add, if_pos]; exact hv


/-! ### places that are kept for what is made later -/
theorem R.reserve {w0 : Bs} {Γ : Gh} {H : List HO} {w : World} (r : R w0 Γ H w) (a : Nat) : R w0 Γ (H ++ List.replicate a .dead) w := by
  obtain ⟨hglo, hbel, himm, ⟨bs, hobj, hdis⟩, hfr, hold, hrv⟩ := r
  have split : ∀ (i : Nat) (h : HO), (H ++ List.replicate a .dead)[i]? = some h → H[i]? = some h ∨ (h = .dead ∧ H.length ≤ i) := by
    intro i h hi
    rcases Nat.lt_or_ge i H.length with hlt | hge
    · rw [List.getElem?_append_left hlt] at hi; exact .inl hi
    · rw [List.getElem?_append_right hge, List.getElem?_replicate] at hi
      split at hi
      · cases hi; exact .inr ⟨rfl, hge⟩
      · cases hi
  refine ⟨hglo, hbel, himm, ⟨bs, ?_, ?_⟩, fun i hi => hfr i (by simp at hi; omega), hold, ?_⟩
  · intro i h hi hl
    rcases split i h hi with h1 | ⟨rfl, _⟩
    · exact hobj i h h1 hl
    · cases hl
  · intro i j h k hi hj hl hk hne
    rcases split i h hi with h1 | ⟨rfl, _⟩
    · rcases split j k hj with h2 | ⟨rfl, _⟩
      · exact hdis i j h k h1 h2 hl hk hne
      · cases hk
    · cases hl
  · intro i hi
    rcases split i _ hi with h1 | ⟨_, h2⟩
    · exact hrv i h1
    · exact hfr i h2
/-- A new variable, at a place that was kept. -/
theorem R.boxAt {w0 : Bs} {Γ : Gh} {H : List HO} {w : World} (r : R w0 Γ H w) {k : Nat} (hk : H[k]? = some .dead) {cs : List AV} {vals : Array Value} (e : TypeId) (h : VRs Γ cs vals.toList) (h1 : AV.ones cs) :
    R w0 (Γ.addB k w.heap.size) (H.set k (.box cs)) (w.alloc (.cells vals e)) := by
  have le := Gh.le_addB (b := w.heap.size) (r.resv k hk).1
  have hn := r.noI
  obtain ⟨hglo, hbel, himm, ⟨bs, hobj, hdis⟩, hfr, hold, hrv⟩ := r
  have hlen := (List.getElem?_eq_some_iff.1 hk).1
  have split : ∀ (j : Nat) (o : HO), (H.set k (.box cs))[j]? = some o → (j ≠ k ∧ H[j]? = some o) ∨ (j = k ∧ o = .box cs) := by
    intro j o hj
    by_cases e : j = k
    · subst e
      rw [List.getElem?_set_self hlen] at hj
      simp at hj
      exact .inr ⟨rfl, hj.symm⟩
    · rw [List.getElem?_set_ne (fun x => e x.symm)] at hj
      exact .inl ⟨e, hj⟩
  have hb := below_alloc w (.cells vals e)
  have keep : ∀ i h, i ≠ k → H[i]? = some h → h.live = true → bs i < w.heap.size ∧ w0.w.heap.size ≤ bs i ∧ h.at (Γ.addB k w.heap.size) (w.alloc (.cells vals e)) i (bs i) := by
    intro i h hik hi hl
    obtain ⟨h2, h3⟩ := hobj i h hi hl
    have hbl := h3.block_lt hl
    exact ⟨hbl, h2, h3.kept le (hb.block _ hbl) (fun o ho => ho) fun m hm => hm⟩
  refine ⟨hglo, hbel.trans (hb.mono hbel.size), ?_, ⟨fun i => if i = k then w.heap.size else bs i, ?_, ?_⟩, ?_, hold, ?_⟩
  · intro b o v hv
    have := himm b o v hv
    rw [hb.cell (p := ⟨b, o, none⟩) (cell_lt this)]; exact this
  · intro i o hi hl
    dsimp only
    rcases split i o hi with ⟨hik, hi⟩ | ⟨rfl, rfl⟩
    · obtain ⟨_, h2, h3⟩ := keep i o hik hi hl
      rw [if_neg hik]; exact ⟨h2, h3⟩
    · rw [if_pos rfl]
      exact ⟨hbel.size, by simp [Gh.addB], ⟨vals, e, heap_new w _, h.mono le⟩, h1, fun o => hn o⟩
  · intro i j o p hi hj hl hp hne
    dsimp only
    rcases split i o hi with ⟨hik, hi⟩ | ⟨rfl, rfl⟩
    · obtain ⟨hbi, _, _⟩ := keep i o hik hi hl
      rw [if_neg hik]
      rcases split j p hj with ⟨hjk, hj⟩ | ⟨rfl, rfl⟩
      · rw [if_neg hjk]; exact hdis i j o p hi hj hl hp hne
      · rw [if_pos rfl]; omega
    · rw [if_pos rfl]
      rcases split j p hj with ⟨hjk, hj⟩ | ⟨rfl, rfl⟩
      · obtain ⟨hbj, _, _⟩ := keep j p hjk hj hp
        rw [if_neg hjk]; omega
      · exact absurd rfl hne
  · intro i hi
    simp at hi
    have := hfr i hi
    exact ⟨by simp only [Gh.addB]; rw [if_neg (by omega)]; exact this.1, this.2⟩
  · intro i hi
    rcases split i _ hi with ⟨hik, hi⟩ | ⟨_, e⟩
    · have := hrv i hi
      exact ⟨by simp only [Gh.addB]; rw [if_neg hik]; exact this.1, this.2⟩
    · cases e

end Go.Proofs.YtjplcdeaedflpaaGreatDoor.PL

namespace Go.Proofs.YtjplcdeaedflpaaGreatDoor.PL
open Go.RowKit

/-! ### what a call has made and left behind is forgotten -/
def Own.lt (n : Nat) : Own → Bool
  | .tok t => decide (t < n)
  | _ => true
mutual
/-- it hangs on no object from n on -/
def AV.lt (n : Nat) : AV → Bool
  | .ptr id _ => decide (id < n)
  | .map id => decide (id < n)
  | .mv id _ _ _ _ => decide (id < n)
  | .eptr id _ _ => decide (id < n)
  | .agg cs => AV.lts n cs
  | .tup cs => AV.lts n cs
  | .ref cs => AV.lts n cs
  | .sl own xs => own.lt n && AV.lts n xs
  | .fn _ a b => AV.lts n a && AV.lts n b
  | .iface _ v => v.lt n
  | .opt b x => !b || x.lt n
  | .any | .bool _ | .int _ _ | .str _ | .nilp | .nilm | .nilf | .nili | .ub => true
def AV.lts (n : Nat) : List AV → Bool
  | [] => true
  | x :: xs => x.lt n && AV.lts n xs
end
theorem AV.lts_iff {n : Nat} {xs : List AV} : AV.lts n xs = true ↔ ∀ x, x ∈ xs → x.lt n = true := by
  induction xs with
  | nil => simp [AV.lts]
  | cons a l ih => simp [AV.lts, ih]
theorem AV.lts_append {n : Nat} {a b : List AV} : AV.lts n (a ++ b) = (AV.lts n a && AV.lts n b) := by induction a with | nil => simp [AV.lts] | cons x l ih => simp [AV.lts, ih, Bool.and_assoc]
theorem AV.lts_cells {n : Nat} {x : AV} : AV.lts n x.cells = x.lt n := by cases x <;> simp [AV.cells, AV.lts, AV.lt]
theorem AV.lts_flat {n : Nat} {xs : List AV} : AV.lts n (xs.flatMap AV.cells) = AV.lts n xs := by
  induction xs with
  | nil => rfl
  | cons a l ih => rw [List.flatMap_cons, AV.lts_append, ih, AV.lts_cells]; rfl
def Gh.cut (Γ : Gh) (n : Nat) : Gh := ⟨Γ.I, fun i => if i < n then Γ.B i else none, fun i m => if i < n then Γ.T i m else none⟩
theorem Own.fits.cut {Γ : Gh} {own : Own} {k n : Nat} {a : Option Addr} {cap : Nat} (h : own.fits Γ k a cap) (ho : own.lt n = true) : own.fits (Γ.cut n) k a cap := by
  cases own with
  | no => trivial
  | exact => exact h
  | nil => exact h
  | tok t =>
    obtain ⟨b, h1, h2⟩ := h
    simp [Own.lt] at ho
    exact ⟨b, h1, by simp [Gh.cut, ho, h2]⟩
mutual
theorem VR.cut {Γ : Gh} {n : Nat} {x : AV} {v : Value} (r : VR Γ x v) (h : x.lt n = true) : VR (Γ.cut n) x v :=
  match r with
  | .any v => .any v
  | .bool b => .bool b
  | .int k m => .int k m
  | .str s => .str s
  | .agg h1 r => .agg h1 (VRs.cut r (by simpa [AV.lt] using h))
  | .tup r => .tup (VRs.cut r (by simpa [AV.lt] using h))
  | .ptr r => .ptr (by simp [AV.lt] at h; simp [Gh.cut, h, r])
  | .nilp => .nilp
  | .ref h1 r hi => .ref h1 (VRs.cut r (by simpa [AV.lt] using h)) hi
  | .sl0 (own := own) ho => .sl0 (ho.cut (by simp [AV.lt] at h; exact h.1))
  | .sl (own := own) hn hs h1 r hi ho hc => .sl hn hs h1 (VRs.cut r (by simp [AV.lt] at h; rw [AV.lts_flat]; exact h.2)) hi (ho.cut (by simp [AV.lt] at h; exact h.1)) hc
  | .map r => .map (by simp [AV.lt] at h; simp [Gh.cut, h, r])
  | .nilm => .nilm
  | .fn r r' => .fn (VRs.cut r (by simp [AV.lt] at h; exact h.1)) (VRs.cut r' (by simp [AV.lt] at h; exact h.2))
  | .nilf => .nilf
  | .nili => .nili
  | .iface r => .iface (VR.cut r (by simpa [AV.lt] using h))
  | .opt r r' => .opt (fun e => VR.cut (r e) (by simp [AV.lt, e] at h; exact h)) r'
  | .mv r hl hc ho => .mv (by simp [AV.lt] at h; simp [Gh.cut, h, r]) hl hc ho
  | .eptr (b := b) (cap := cap) r => .eptr (b := b) (cap := cap) (by simp [AV.lt] at h; simp [Gh.cut, h, r])
  | .ub b => .ub b
theorem VRs.cut {Γ : Gh} {n : Nat} {xs : List AV} {vs : List Value} (r : VRs Γ xs vs) (h : AV.lts n xs = true) : VRs (Γ.cut n) xs vs :=
  match r with
  | .nil => .nil
  | .cons r t => .cons (VR.cut r (by simp [AV.lts] at h; exact h.1)) (VRs.cut t (by simp [AV.lts] at h; exact h.2))
end
/-- what holds of values in a memory of n objects hangs on these alone -/
def Gh.upto (Γ : Gh) (n : Nat) : Prop := ∀ i, n ≤ i → Γ.B i = none ∧ ∀ m, Γ.T i m = none
theorem Gh.upto.B {Γ : Gh} {n i b : Nat} (h : Γ.upto n) (hb : Γ.B i = some b) : i < n := by
  rcases Nat.lt_or_ge i n with hi | hi
  · exact hi
  · rw [(h i hi).1] at hb; cases hb
theorem Gh.upto.T {Γ : Gh} {n i m : Nat} {p : Nat × Nat} (h : Γ.upto n) (hb : Γ.T i m = some p) : i < n := by
  rcases Nat.lt_or_ge i n with hi | hi
  · exact hi
  · rw [(h i hi).2 m] at hb; cases hb
theorem Own.fits.lt {Γ : Gh} {own : Own} {k n : Nat} {a : Option Addr} {cap : Nat} (hu : Γ.upto n) (h : own.fits Γ k a cap) : own.lt n = true := by
  cases own with
  | tok t => obtain ⟨b, h1, h2⟩ := h; simp [Own.lt, hu.T h2]
  | _ => rfl
mutual
theorem VR.lt {Γ : Gh} {n : Nat} (hu : Γ.upto n) {x : AV} {v : Value} (r : VR Γ x v) : x.lt n = true :=
  match r with
  | .any v => rfl
  | .bool b => rfl
  | .int k m => rfl
  | .str s => rfl
  | .agg h1 r => by simpa [AV.lt] using VRs.lt hu r
  | .tup r => by simpa [AV.lt] using VRs.lt hu r
  | .ptr r => by simp [AV.lt, hu.B r]
  | .nilp => rfl
  | .ref h1 r hi => by simpa [AV.lt] using VRs.lt hu r
  | .sl0 (own := own) ho => by simp [AV.lt, AV.lts, ho.lt hu]
  | .sl (own := own) hn hs h1 r hi ho hc => by
    have := VRs.lt hu r
    rw [AV.lts_flat] at this
    simp [AV.lt, ho.lt hu, this]
  | .map r => by simp [AV.lt, hu.B r]
  | .nilm => rfl
  | .fn r r' => by simp [AV.lt, VRs.lt hu r, VRs.lt hu r']
  | .nilf => rfl
  | .nili => rfl
  | .iface r => by simpa [AV.lt] using VR.lt hu r
  | .opt (b := b) r r' => by
    cases hb : b with
    | false => simp [AV.lt]
    | true => simpa [AV.lt] using VR.lt hu (r hb)
  | .mv r hl hc ho => by simp [AV.lt, hu.T r]
  | .eptr r => by simp [AV.lt, hu.T r]
  | .ub b => rfl
theorem VRs.lt {Γ : Gh} {n : Nat} (hu : Γ.upto n) {xs : List AV} {vs : List Value} (r : VRs Γ xs vs) : AV.lts n xs = true :=
  match r with
  | .nil => rfl
  | .cons r t => by simp [AV.lts, VR.lt hu r, VRs.lt hu t]
end
def ltM (n : Nat) : List (AV × AV) → Bool
  | [] => true
  | (k, v) :: es => k.lt n && v.lt n && ltM n es
theorem VRm.lt {Γ : Gh} {n : Nat} (hu : Γ.upto n) : ∀ {es : List (AV × AV)} {ents : List MapEntry}, VRm Γ es ents → ltM n es = true
  | _, _, .nil => rfl
  | _, _, .cons hk hv t => by simp [ltM, hk.lt hu, hv.lt hu, t.lt hu]
theorem VRm.cut {Γ : Gh} {n : Nat} : ∀ {es : List (AV × AV)} {ents : List MapEntry}, VRm Γ es ents → ltM n es = true → VRm (Γ.cut n) es ents
  | _, _, .nil, _ => .nil
  | _, _, .cons hk hv t, h => by
    simp [ltM] at h
    exact .cons (hk.cut h.1.1) (hv.cut h.1.2) (t.cut h.2)
def HO.lt (n : Nat) : HO → Bool
  | .dead => true
  | .gone => true
  | .box cs => AV.lts n cs
  | .mp es _ => ltM n es
  | .spare _ _ => true
  | .row _ _ cs => AV.lts n cs
  | .it m _ _ _ => decide (m < n)
  | .raw _ => true
theorem HO.at.lt {Γ : Gh} {n : Nat} (hu : Γ.upto n) {w : World} {i b : Nat} {h : HO} (ha : h.at Γ w i b) : h.lt n = true := by
  cases h with
  | dead => rfl
  | gone => rfl
  | box cs => obtain ⟨_, ⟨vals, e, _, hv⟩, _⟩ := ha; exact hv.lt hu
  | mp es c => obtain ⟨_, ⟨vals, e, _, hv, _⟩, _⟩ := ha; exact hv.lt hu
  | spare n sz => rfl
  | row n sz cs => obtain ⟨⟨cap, cur, e, _, _, _, _, _, hv⟩, _⟩ := ha; exact hv.lt hu
  | it m k n seen => obtain ⟨_, ⟨mb, sa, hm, _⟩, _⟩ := ha; simp [HO.lt, hu.B hm]
  | raw x => rfl
theorem HO.at.cut {Γ : Gh} {n : Nat} {w : World} {i b : Nat} {h : HO} (ha : h.at Γ w i b) (hi : i < n) (hl : h.lt n = true) : h.at (Γ.cut n) w i b := by
  have hT : ∀ m, (Γ.cut n).T i m = Γ.T i m := fun m => by simp [Gh.cut, hi]
  have hB : (Γ.cut n).B i = Γ.B i := by simp [Gh.cut, hi]
  cases h with
  | dead => trivial
  | gone => trivial
  | box cs => obtain ⟨h1, ⟨vals, e, h2, h3⟩, h4, h5⟩ := ha; exact ⟨hB.trans h1, ⟨vals, e, h2, h3.cut hl⟩, h4, h5⟩
  | mp es c => obtain ⟨h1, ⟨vals, e, h2, h3, h4⟩, h5⟩ := ha; exact ⟨hB.trans h1, ⟨vals, e, h2, h3.cut hl, h4⟩, h5⟩
  | spare m sz =>
    obtain ⟨⟨cap, cur, e, h1, h2, h3⟩, h4, h5⟩ := ha
    exact ⟨⟨cap, cur, e, (hT _).trans h1, h2, h3⟩, h4, fun k hk => (hT _).trans (h5 k hk)⟩
  | row m sz cs =>
    obtain ⟨⟨cap, cur, e, h1, h2, h3, h6, h7, h8⟩, h9, h4, h5⟩ := ha
    exact ⟨⟨cap, cur, e, (hT _).trans h1, h2, h3, h6, h7, h8.cut hl⟩, h9, h4, fun k hk => (hT _).trans (h5 k hk)⟩
  | it m k n' seen =>
    obtain ⟨h1, ⟨mb, sa, h2, h3, h4⟩, h5⟩ := ha
    simp [HO.lt] at hl
    exact ⟨hB.trans h1, ⟨mb, sa, by simp [Gh.cut, hl, h2], h3, h4⟩, h5⟩
  | raw x => obtain ⟨h1, h2, h3⟩ := ha; exact ⟨hB.trans h1, h2, h3⟩
theorem R.cut {w0 : Bs} {Γ : Gh} {H0 junk : List HO} {w : World} (r : R w0 Γ (H0 ++ junk) w) (hl : ∀ h : HO, h ∈ H0 → h.live = true → h.lt H0.length = true) : R w0 (Γ.cut H0.length) H0 w := by
  obtain ⟨hglo, hbel, himm, ⟨bs, hobj, hdis⟩, hfr, hold, hrv⟩ := r
  have get : ∀ (i : Nat) (h : HO), H0[i]? = some h → (H0 ++ junk)[i]? = some h := fun i h hi => by
    rw [List.getElem?_append_left (List.getElem?_eq_some_iff.1 hi).1]; exact hi
  refine ⟨hglo, hbel, himm, ⟨bs, ?_, ?_⟩, ?_, hold, fun i hi => by
    have := hrv i (get i _ hi)
    have hlt := (List.getElem?_eq_some_iff.1 hi).1
    exact ⟨by simp [Gh.cut, hlt, this.1], fun m => by simp [Gh.cut, hlt, this.2]⟩⟩
  · intro i h hi hlv
    obtain ⟨h1, h2⟩ := hobj i h (get i h hi) hlv
    exact ⟨h1, h2.cut (List.getElem?_eq_some_iff.1 hi).1 (hl h (List.mem_of_getElem? hi) hlv)⟩
  · intro i j h k hi hj
    exact hdis i j h k (get i h hi) (get j k hj)
  · intro i hi
    have : ¬ i < H0.length := by omega
    exact ⟨by simp [Gh.cut, this], fun m => by simp [Gh.cut, this]⟩
theorem Gh.le_cut {Γ Δ : Gh} {n : Nat} (h : Gh.Le Γ Δ) (hu : Γ.upto n) : Gh.Le Γ (Δ.cut n) :=
  ⟨h.I, fun i b hb => by simp [Gh.cut, hu.B hb, h.B _ _ hb], fun i m p hp => by simp [Gh.cut, hu.T hp, h.T _ _ _ hp]⟩
/-! ### an object is told at a place that was kept for it -/
def Gh.move (Γ : Gh) (k n : Nat) : Gh := ⟨Γ.I, fun i => if i = k then Γ.B n else if i < n then Γ.B i else none, fun i m => if i = k then Γ.T n m else if i < n then Γ.T i m else none⟩
theorem Gh.le_move {Γ : Gh} {k n : Nat} (hB : Γ.B k = none) (hT : ∀ m, Γ.T k m = none) : Gh.Le (Γ.cut n) (Γ.move k n) := by
  refine ⟨fun _ _ _ h => h, fun i b h => ?_, fun i m p h => ?_⟩
  · by_cases e : i = k
    · subst e; simp [Gh.cut, hB] at h
    · simpa [Gh.cut, Gh.move, e] using h
  · by_cases e : i = k
    · subst e; simp [Gh.cut, hT] at h
    · simpa [Gh.cut, Gh.move, e] using h
theorem R.move {w0 : Bs} {Γ : Gh} {H : List HO} {w : World} {m sz k : Nat} {cs : List AV} (r : R w0 Γ (H ++ [.row m sz cs]) w) (hk : H[k]? = some .dead) (hl : ∀ h : HO, h ∈ H → h.live = true → h.lt H.length = true) (hc : AV.lts H.length cs = true) :
    R w0 (Γ.move k H.length) (H.set k (.row m sz cs)) w := by
  have hkl := (List.getElem?_eq_some_iff.1 hk).1
  obtain ⟨hglo, hbel, himm, ⟨bs, hobj, hdis⟩, hfr, hold, hrv⟩ := r
  have get : ∀ (i : Nat) (h : HO), H[i]? = some h → (H ++ [HO.row m sz cs])[i]? = some h := fun i h hi => by
    rw [List.getElem?_append_left (List.getElem?_eq_some_iff.1 hi).1]; exact hi
  have hd := hrv k (get k _ hk)
  have le := Gh.le_move (n := H.length) hd.1 hd.2
  have hnew : (H ++ [HO.row m sz cs])[H.length]? = some (.row m sz cs) := by simp
  have split : ∀ (j : Nat) (o : HO), (H.set k (.row m sz cs))[j]? = some o → (j ≠ k ∧ H[j]? = some o) ∨ (j = k ∧ o = .row m sz cs) := by
    intro j o hj
    by_cases e : j = k
    · subst e
      rw [List.getElem?_set_self hkl] at hj
      simp at hj
      exact .inr ⟨rfl, hj.symm⟩
    · rw [List.getElem?_set_ne (fun x => e x.symm)] at hj
      exact .inl ⟨e, hj⟩
  have old : ∀ i h, i ≠ k → H[i]? = some h → h.live = true → w0.w.heap.size ≤ bs i ∧ h.at (Γ.move k H.length) w i (bs i) := by
    intro i h hik hi hlv
    obtain ⟨h1, h2⟩ := hobj i h (get i h hi) hlv
    have hlt := (List.getElem?_eq_some_iff.1 hi).1
    refine ⟨h1, (h2.cut hlt (hl h (List.mem_of_getElem? hi) hlv)).kept le rfl (fun o ho => ho) fun q hq => ?_⟩
    simp only [Gh.move, Gh.cut] at hq ⊢
    rw [if_neg hik]
    exact hq
  obtain ⟨n1, n2⟩ := hobj _ _ hnew rfl
  have new : (HO.row m sz cs).at (Γ.move k H.length) w k (bs H.length) := by
    obtain ⟨⟨cap, cur, e, h1, h2, h3, h6, h7, h8⟩, h9, h4, h5⟩ := n2
    exact ⟨⟨cap, cur, e, by simpa [Gh.move] using h1, h2, h3, h6, h7, (h8.cut hc).mono le⟩, h9, h4, fun q hq => by simpa [Gh.move] using h5 q hq⟩
  have ne : ∀ i h, i ≠ k → H[i]? = some h → h.live = true → bs i ≠ bs H.length := by
    intro i h hik hi hlv
    have hlt := (List.getElem?_eq_some_iff.1 hi).1
    exact hdis i H.length h _ (get i h hi) hnew hlv rfl (by omega)
  refine ⟨hglo, hbel, himm, ⟨fun i => if i = k then bs H.length else bs i, ?_, ?_⟩, ?_, hold, ?_⟩
  · intro i h hi hlv
    dsimp only
    rcases split i h hi with ⟨hik, hi⟩ | ⟨rfl, rfl⟩
    · rw [if_neg hik]; exact old i h hik hi hlv
    · rw [if_pos rfl]; exact ⟨n1, new⟩
  · intro i j h q hi hj hlh hlq hne
    dsimp only
    rcases split i h hi with ⟨hik, hi'⟩ | ⟨rfl, rfl⟩
    · rw [if_neg hik]
      rcases split j q hj with ⟨hjk, hj'⟩ | ⟨rfl, rfl⟩
      · rw [if_neg hjk]; exact hdis i j h q (get i h hi') (get j q hj') hlh hlq hne
      · rw [if_pos rfl]; exact ne i h hik hi' hlh
    · rw [if_pos rfl]
      rcases split j q hj with ⟨hjk, hj'⟩ | ⟨rfl, rfl⟩
      · rw [if_neg hjk]; exact (ne j q hjk hj' hlq).symm
      · exact absurd rfl hne
  · intro i hi
    simp at hi
    have h1 : ¬ i = k := by omega
    have h2 : ¬ i < H.length := by omega
    exact ⟨by simp [Gh.move, h1, h2], fun q => by simp [Gh.move, h1, h2]⟩
  · intro i hi
    rcases split i _ hi with ⟨hik, hi⟩ | ⟨_, e⟩
    · have := hrv i (get i _ hi)
      have hlt := (List.getElem?_eq_some_iff.1 hi).1
      exact ⟨by simp [Gh.move, hik, hlt, this.1], fun q => by simp [Gh.move, hik, hlt, this.2]⟩
    · cases e
theorem R.moveS {w0 : Bs} {Γ : Gh} {H : List HO} {w : World} {m sz k : Nat} (r : R w0 Γ (H ++ [.spare m sz]) w) (hk : H[k]? = some .dead) (hl : ∀ h : HO, h ∈ H → h.live = true → h.lt H.length = true) :
    R w0 (Γ.move k H.length) (H.set k (.spare m sz)) w := by
  have hkl := (List.getElem?_eq_some_iff.1 hk).1
  obtain ⟨hglo, hbel, himm, ⟨bs, hobj, hdis⟩, hfr, hold, hrv⟩ := r
  have get : ∀ (i : Nat) (h : HO), H[i]? = some h → (H ++ [HO.spare m sz])[i]? = some h := fun i h hi => by
    rw [List.getElem?_append_left (List.getElem?_eq_some_iff.1 hi).1]; exact hi
  have hd := hrv k (get k _ hk)
  have le := Gh.le_move (n := H.length) hd.1 hd.2
  have hnew : (H ++ [HO.spare m sz])[H.length]? = some (.spare m sz) := by simp
  have split : ∀ (j : Nat) (o : HO), (H.set k (.spare m sz))[j]? = some o → (j ≠ k ∧ H[j]? = some o) ∨ (j = k ∧ o = .spare m sz) := by
    intro j o hj
    by_cases e : j = k
    · subst e
      rw [List.getElem?_set_self hkl] at hj
      simp at hj
      exact .inr ⟨rfl, hj.symm⟩
    · rw [List.getElem?_set_ne (fun x => e x.symm)] at hj
      exact .inl ⟨e, hj⟩
  have old : ∀ i h, i ≠ k → H[i]? = some h → h.live = true → w0.w.heap.size ≤ bs i ∧ h.at (Γ.move k H.length) w i (bs i) := by
    intro i h hik hi hlv
    obtain ⟨h1, h2⟩ := hobj i h (get i h hi) hlv
    have hlt := (List.getElem?_eq_some_iff.1 hi).1
    refine ⟨h1, (h2.cut hlt (hl h (List.mem_of_getElem? hi) hlv)).kept le rfl (fun o ho => ho) fun q hq => ?_⟩
    simp only [Gh.move, Gh.cut] at hq ⊢
    rw [if_neg hik]
    exact hq
  obtain ⟨n1, n2⟩ := hobj _ _ hnew rfl
  have new : (HO.spare m sz).at (Γ.move k H.length) w k (bs H.length) := by
    obtain ⟨⟨cap, cur, e, h1, h2, h3, h6, h7⟩, h4, h5⟩ := n2
    exact ⟨⟨cap, cur, e, by simpa [Gh.move] using h1, h2, h3, h6, h7⟩, h4, fun q hq => by simpa [Gh.move] using h5 q hq⟩
  have ne : ∀ i h, i ≠ k → H[i]? = some h → h.live = true → bs i ≠ bs H.length := by
    intro i h hik hi hlv
    have hlt := (List.getElem?_eq_some_iff.1 hi).1
    exact hdis i H.length h _ (get i h hi) hnew hlv rfl (by omega)
  refine ⟨hglo, hbel, himm, ⟨fun i => if i = k then bs H.length else bs i, ?_, ?_⟩, ?_, hold, ?_⟩
  · intro i h hi hlv
    dsimp only
    rcases split i h hi with ⟨hik, hi⟩ | ⟨rfl, rfl⟩
    · rw [if_neg hik]; exact old i h hik hi hlv
    · rw [if_pos rfl]; exact ⟨n1, new⟩
  · intro i j h q hi hj hlh hlq hne
    dsimp only
    rcases split i h hi with ⟨hik, hi'⟩ | ⟨rfl, rfl⟩
    · rw [if_neg hik]
      rcases split j q hj with ⟨hjk, hj'⟩ | ⟨rfl, rfl⟩
      · rw [if_neg hjk]; exact hdis i j h q (get i h hi') (get j q hj') hlh hlq hne
      · rw [if_pos rfl]; exact ne i h hik hi' hlh
    · rw [if_pos rfl]
      rcases split j q hj with ⟨hjk, hj'⟩ | ⟨rfl, rfl⟩
      · rw [if_neg hjk]; exact (ne j q hjk hj' hlq).symm
      · exact absurd rfl hne
  · intro i hi
    simp at hi
    have h1 : ¬ i = k := by omega
    have h2 : ¬ i < H.length := by omega
    exact ⟨by simp [Gh.move, h1, h2], fun q => by simp [Gh.move, h1, h2]⟩
  · intro i hi
    rcases split i _ hi with ⟨hik, hi⟩ | ⟨_, e⟩
    · have := hrv i (get i _ hi)
      have hlt := (List.getElem?_eq_some_iff.1 hi).1
      exact ⟨by simp [Gh.move, hik, hlt, this.1], fun q => by simp [Gh.move, hik, hlt, this.2]⟩
    · cases e
end Go.Proofs.YtjplcdeaedflpaaGreatDoor.PL

namespace Go.Proofs.YtjplcdeaedflpaaGreatDoor.PL
open Go.RowKit

abbrev Ev := Operand → AV

def AV.ofCell : Value → AV
  | .bool b => .bool b
  | .int k n => .int k n
  | .string s => .str s
  | .pointer none => .nilp
  | .slice none 0 0 => .sl .exact []
  | .map none => .nilm
  | .nilFunc => .nilf
  | .nilIface => .nili
  | _ => .any

def AV.ofVal : Value → AV
  | .agg cs => if (cs.toList.map AV.ofCell).all AV.one = true then .agg (cs.toList.map AV.ofCell) else .any
  | v => AV.ofCell v

/-- a constant: nil is known as such -/
def AV.ofConst : Value → AV
  | .slice none 0 0 => .sl .nil []
  | v => AV.ofVal v
theorem VR.ofCell (Γ : Gh) (v : Value) : VR Γ (AV.ofCell v) v := by
  unfold AV.ofCell
  split
  case h_5 => exact .sl0 (own := .exact) rfl
  all_goals constructor

theorem VRs.ofCells (Γ : Gh) : ∀ vs : List Value, VRs Γ (vs.map AV.ofCell) vs
  | [] => .nil
  | v :: vs => .cons (VR.ofCell Γ v) (VRs.ofCells Γ vs)

theorem VR.ofVal (Γ : Gh) (v : Value) : VR Γ (AV.ofVal v) v := by
  unfold AV.ofVal
  split
  · rename_i cs
    split
    · rename_i h
      have h2 := VR.agg (Γ := Γ) (cs := cs.toList.map AV.ofCell) (vs := cs.toList) (fun x hx => List.all_eq_true.1 h x hx) (VRs.ofCells Γ _)
      simpa using h2
    · exact .any _
  · exact VR.ofCell Γ _

theorem VR.ofConst (Γ : Gh) (v : Value) : VR Γ (AV.ofConst v) v := by
  unfold AV.ofConst
  split
  · exact .sl0 (own := .nil) ⟨rfl, rfl⟩
  · exact VR.ofVal Γ v
def evA (E : Nat → AV) : Ev
  | .tmp t => E t
  | .const v => AV.ofConst v
  | .global _ => .any
  | .func f => .fn (.func f) [] []

/-- What an operation does, told: from whatever memory that fits. -/
def OpT (P : Program) (o : Oper) (E : Ev) (H : List HO) (r : AV) (H' : List HO) : Prop :=
  ∀ (w0 : Bs) (Γ : Gh) (w : World) (a : Act) (next : Act → World → Prop) (Q : Exit → Act → World → Prop), R w0 Γ H w → (∀ x, x ∈ o.op.operands → VR Γ (E x) (a.eval x)) →
    (∀ Γ' v w', Gh.Le Γ Γ' → VR Γ' r v → R w0 Γ' H' w' → next (a.put o.dst v) w') → o.wp P a w next Q

theorem OpT.value {P : Program} {o : Oper} {E : Ev} {H H' : List HO} {r : AV}
    (h : ∀ (w0 : Bs) (Γ : Gh) (w : World) (ρ : Operand → Value), R w0 Γ H w → (∀ x, x ∈ o.op.operands → VR Γ (E x) (ρ x)) →
      ∃ Γ' v w', (execOp ρ o).run P w = .ok (.value v) w' ∧ Gh.Le Γ Γ' ∧ VR Γ' r v ∧ R w0 Γ' H' w') : OpT P o E H r H' := by
  intro w0 Γ w a next Q hr hx hk
  obtain ⟨Γ', v, w', h1, h2, h3, h4⟩ := h w0 Γ w a.eval hr hx
  unfold Oper.wp
  rw [h1]
  exact hk Γ' v w' h2 h3 h4

theorem OpT.skip {P : Program} {o : Oper} {E : Ev} {H H' : List HO}
    (h : ∀ (w0 : Bs) (Γ : Gh) (w : World) (ρ : Operand → Value), R w0 Γ H w → (∀ x, x ∈ o.op.operands → VR Γ (E x) (ρ x)) →
      ∃ Γ' w', (execOp ρ o).run P w = .ok .skip w' ∧ Gh.Le Γ Γ' ∧ R w0 Γ' H' w') : OpT P o E H .any H' := by
  intro w0 Γ w a next Q hr hx hk
  obtain ⟨Γ', w', h1, h2, h4⟩ := h w0 Γ w a.eval hr hx
  unfold Oper.wp
  rw [h1]
  exact hk Γ' _ w' h2 (.any _) h4

/-- The same for an operation that touches nothing. -/
theorem OpT.still {P : Program} {o : Oper} {E : Ev} {H : List HO} {r : AV}
    (h : ∀ (Γ : Gh) (w : World) (ρ : Operand → Value), (∀ b o v, Γ.I b o = some v → w.cell? ⟨b, o, none⟩ = some v) → (∀ x, x ∈ o.op.operands → VR Γ (E x) (ρ x)) →
      ∃ v, (execOp ρ o).run P w = .ok (.value v) w ∧ VR Γ r v) : OpT P o E H r H :=
  OpT.value fun w0 Γ w ρ hr hx => by
    obtain ⟨v, h1, h2⟩ := h Γ w ρ hr.imm hx
    exact ⟨Γ, v, w, h1, Gh.Le.refl Γ, h2, hr⟩

section types
variable (P : Program)
def szOf (t : TypeId) : Option Nat := (P.info? t).map (·.size)
def byOf (t : TypeId) : Option Nat := (P.info? t).map (·.bytes)
def zOf (t : TypeId) : Option AV := ((P.info? t).bind (·.zero)).map AV.ofVal
def aggOf (t : TypeId) : Option Bool := (P.underlying t).map fun | .struct _ => true | .array _ _ => true | _ => false
end types

theorem run_underlying' {P : Program} {t : TypeId} {d : TypeDesc} (h : P.underlying t = some d) (w : World) : (underlying t).run P w = .ok d w := by
  simp [underlying, h]
theorem run_typeInfo' {P : Program} {t : TypeId} {i : TypeInfo} (h : P.info? t = some i) (w : World) : (typeInfo t).run P w = .ok i w := by
  simp [typeInfo, h]
theorem run_sizeOf' {P : Program} {t : TypeId} {n : Nat} (h : szOf P t = some n) (w : World) : (sizeOf t).run P w = .ok n w := by
  unfold szOf at h
  cases hi : P.info? t with
  | none => rw [hi] at h; cases h
  | some i => rw [hi] at h; simp at h; subst h; simp [Go.sizeOf, run_typeInfo' hi]
theorem run_isAgg' {P : Program} {t : TypeId} {b : Bool} (h : aggOf P t = some b) (w : World) : (isAgg t).run P w = .ok b w := by
  unfold aggOf at h
  cases hi : P.underlying t with
  | none => rw [hi] at h; cases h
  | some d => rw [hi] at h; simp at h; subst h; cases d <;> simp [isAgg, run_underlying' hi]

theorem addr_add (b o n : Nat) : (⟨b, o, none⟩ : Addr).add n = ⟨b, o + n, none⟩ := by
  unfold Addr.add
  split
  · rename_i h; subst h; rfl
  · rfl

/-- Cells that stay, loaded. -/
theorem run_loadVar_at {P : Program} {Γ : Gh} {w : World} {b o : Nat} {vs : List Value} (hw : ∀ b o v, Γ.I b o = some v → w.cell? ⟨b, o, none⟩ = some v) (hi : Γ.At b o vs) {t : TypeId} :
    (∀ n, aggOf P t = some true → szOf P t = some n → n ≤ vs.length → (loadVar t ⟨b, o, none⟩).run P w = .ok (.agg (vs.take n).toArray) w) ∧
    (∀ v, aggOf P t = some false → vs[0]? = some v → (loadVar t ⟨b, o, none⟩).run P w = .ok v w) := by
  constructor
  · intro n h1 h2 h3
    have hl : (loadCells ⟨b, o, none⟩ n).run P w = .ok (vs.take n).toArray w := by
      have := run_loadCells_list (P := P) w ⟨b, o, none⟩ (vs.take n) (fun j v hj => by
        rw [addr_add]
        refine hw _ _ _ (hi j v ?_)
        rw [List.getElem?_take] at hj
        split at hj
        · exact hj
        · cases hj)
      rwa [List.length_take, Nat.min_eq_left h3] at this
    simp [loadVar, run_isAgg' h1, run_sizeOf' h2, hl]
  · intro v h1 h2
    have hc := hw _ _ _ (hi 0 v h2)
    simp only [Nat.add_zero] at hc
    simp [loadVar, run_isAgg' h1, hc]

end Go.Proofs.YtjplcdeaedflpaaGreatDoor.PL

namespace Go.Proofs.YtjplcdeaedflpaaGreatDoor.PL
open Go.RowKit

/-! ### what an operation that touches no variable tells (`pv`), and when it may be told (`ps`) -/

def intBin (op : BinOp) (k : IntKind) (a b : Int) : AV :=
  match op with
  | .add => .int k (k.wrap (a + b))
  | .sub => .int k (k.wrap (a - b))
  | .mul => .int k (k.wrap (a * b))
  | .quo => .int k (k.wrap (a.tdiv b))
  | .rem => .int k (a.tmod b)
  | .and => .int k (k.wrap (((a % ((2 ^ k.bits : Nat) : Int)).toNat &&& (b % ((2 ^ k.bits : Nat) : Int)).toNat : Nat) : Int))
  | .or => .int k (k.wrap (((a % ((2 ^ k.bits : Nat) : Int)).toNat ||| (b % ((2 ^ k.bits : Nat) : Int)).toNat : Nat) : Int))
  | .xor => .int k (k.wrap (((a % ((2 ^ k.bits : Nat) : Int)).toNat ^^^ (b % ((2 ^ k.bits : Nat) : Int)).toNat : Nat) : Int))
  | .andNot => .int k (k.wrap (BitVec.ofInt k.bits a &&& ~~~(BitVec.ofInt k.bits b)).toNat)
  | .shl => .int k (k.wrap (a * 2 ^ (min b.toNat k.bits)))
  | .shr => .int k (a.fdiv (2 ^ (min b.toNat k.bits)))
  | .eql => .bool (a == b)
  | .neq => .bool (a != b)
  | .lss => .bool (decide (a < b))
  | .leq => .bool (decide (a ≤ b))
  | .gtr => .bool (decide (a > b))
  | .geq => .bool (decide (a ≥ b))

def intBinS (op : BinOp) (k k' : IntKind) (b : Int) : Prop :=
  match op with
  | .shl | .shr => 0 ≤ b
  | .quo | .rem => k = k' ∧ b ≠ 0
  | _ => k = k'

def strBin (op : BinOp) (a b : ByteArray) : AV :=
  match op with
  | .add => .str (a ++ b)
  | .eql => .bool (a.toList == b.toList)
  | .neq => .bool (!(a.toList == b.toList))
  | .lss => .bool (Op.bytesLess a.toList b.toList)
  | .leq => .bool (Op.bytesLess a.toList b.toList || a.toList == b.toList)
  | .gtr => .bool (!(Op.bytesLess a.toList b.toList || a.toList == b.toList))
  | .geq => .bool (!(Op.bytesLess a.toList b.toList))
  | _ => .any
def strBinS (op : BinOp) (a b : ByteArray) : Prop :=
  match op with
  | .add => a.size + b.size ≤ 9223372036854775807
  | .eql | .neq | .lss | .leq | .gtr | .geq => True
  | _ => False

/-- Two structs or arrays, cell by cell. -/
def eqCells : List AV → List AV → Bool
  | .int _ a :: xs, .int _ b :: ys => a == b && eqCells xs ys
  | .str a :: xs, .str b :: ys => a.toList == b.toList && eqCells xs ys
  | .bool a :: xs, .bool b :: ys => a == b && eqCells xs ys
  | _, _ => true

def EqT (P : Program) (t : TypeId) (cs ds : List AV) : Prop :=
  ∀ Γ vs us w, VRs Γ cs vs → VRs Γ ds us → (∀ op x y, (eqGuard op t x y (.agg vs.toArray) (.agg us.toArray)).run P w = .ok () w) ∧
    (Op.equal t (.agg vs.toArray) (.agg us.toArray)).run P w = .ok (eqCells cs ds) w

/-- a slice held against nil -/
def nilV (op : BinOp) (n : Nat) : AV := if n = 0 then .ub else match op with | .eql => .bool false | .neq => .bool true | _ => .any
def isSlT (P : Program) (t : TypeId) : Prop := match P.underlying t with | some (.slice _) => True | _ => False
def binV (op : BinOp) (x y : AV) : AV :=
  match x, y with
  | .int k a, .int _ b => intBin op k a b
  | .str a, .str b => strBin op a b
  | .bool a, .bool b => match op with | .eql => .bool (a == b) | .neq => .bool (!(a == b)) | _ => .any
  | .agg a, .agg b => match op with | .eql => .bool (eqCells a b) | .neq => .bool (!(eqCells a b)) | _ => .any
  | .ptr _ _, .nilp | .nilp, .ptr _ _ | .ref _, .nilp | .nilp, .ref _ => match op with | .eql => .bool false | .neq => .bool true | _ => .any
  | .nilp, .nilp => match op with | .eql => .bool true | .neq => .bool false | _ => .any
  | .sl _ xs, .sl .nil _ => nilV op xs.length
  | _, _ => .any
def isPtrT (P : Program) (t : TypeId) : Prop := match P.underlying t with | some (.pointer _) => True | _ => False
def eqOp (op : BinOp) : Prop := match op with | .eql | .neq => True | _ => False
def binS (P : Program) (op : BinOp) (t : TypeId) (x y : AV) : Prop :=
  match x, y with
  | .int k _, .int k' b => intBinS op k k' b
  | .str a, .str b => strBinS op a b
  | .bool _, .bool _ => eqOp op ∧ P.underlying t = some .bool
  | .agg a, .agg b => eqOp op ∧ EqT P t a b
  | .ptr _ _, .nilp | .nilp, .ptr _ _ | .ref _, .nilp | .nilp, .ref _ | .nilp, .nilp => eqOp op ∧ isPtrT P t
  | .sl _ _, .sl .nil _ => eqOp op ∧ isSlT P t
  | _, _ => False

theorem run_binOp_int {P : Program} {op : BinOp} {k k' : IntKind} {a b : Int} (h : intBinS op k k' b) (t : TypeId) (Γ : Gh) (w : World) :
    ∃ v, (binOp op t (.int k a) (.int k' b)).run P w = .ok v w ∧ VR Γ (intBin op k a b) v := by
  cases op <;> simp only [intBinS] at h
  case shl => exact ⟨.int k (k.wrap (a * 2 ^ (min b.toNat k.bits))), by simp only [binOp, Op.shift, if_neg (Int.not_lt.2 h)]; rfl, .int _ _⟩
  case shr => exact ⟨.int k (a.fdiv (2 ^ (min b.toNat k.bits))), by simp only [binOp, Op.shift, if_neg (Int.not_lt.2 h)]; rfl, .int _ _⟩
  case quo => obtain ⟨rfl, h⟩ := h; exact ⟨.int k (k.wrap (a.tdiv b)), by simp only [binOp, ne_eq, not_true_eq_false, if_false, Op.intDiv, if_neg h]; rfl, .int _ _⟩
  case rem => obtain ⟨rfl, h⟩ := h; exact ⟨.int k (a.tmod b), by simp only [binOp, ne_eq, not_true_eq_false, if_false, Op.intDiv, if_neg h]; rfl, .int _ _⟩
  all_goals (subst h; refine ⟨_, by simp only [binOp, ne_eq, not_true_eq_false, if_false]; rfl, ?_⟩; simp only [intBin]; first | exact .int _ _ | exact .bool _)

theorem run_binOp_str {P : Program} {op : BinOp} {a b : ByteArray} (h : strBinS op a b) (t : TypeId) (Γ : Gh) (w : World) :
    ∃ v, (binOp op t (.string a) (.string b)).run P w = .ok v w ∧ VR Γ (strBin op a b) v := by
  cases op <;> simp only [strBinS] at h
  case add =>
    refine ⟨.string (a ++ b), ?_, .str _⟩
    simp only [binOp, Op.stringOp]
    rw [if_neg]
    · rfl
    · simp only [IntKind.max, IntKind.signed, IntKind.bits]
      simp
      omega
  all_goals first | exact h.elim | (refine ⟨_, by simp only [binOp, Op.stringOp]; rfl, ?_⟩; simp only [strBin]; exact .bool _)

theorem run_equal_bool {P : Program} {t : TypeId} (ht : P.underlying t = some .bool) (p q : Bool) (w : World) : (Op.equal t (.bool p) (.bool q)).run P w = .ok (p == q) w := by
  show (Op.equalIn (9999 + 1) t (.bool p) (.bool q)).run P w = _
  generalize 9999 = d
  simp only [Op.equalIn, Sem.run_bind, run_underlying' ht, Result.andThen_ok, Sem.run_pure]

theorem run_equal_ptr_r {P : Program} {t e : TypeId} (ht : P.underlying t = some (.pointer e)) (a : Option Addr) (w : World) :
    (Op.equal t (.pointer a) (.pointer none)).run P w = .ok a.isNone w := by
  show (Op.equalIn (9999 + 1) t (.pointer a) (.pointer none)).run P w = _
  generalize 9999 = d
  cases a <;> simp only [Op.equalIn, Sem.run_bind, run_underlying' ht, Result.andThen_ok, Sem.run_pure] <;> rfl

theorem run_equal_ptr_l {P : Program} {t e : TypeId} (ht : P.underlying t = some (.pointer e)) (a : Option Addr) (w : World) :
    (Op.equal t (.pointer none) (.pointer a)).run P w = .ok a.isNone w := by
  show (Op.equalIn (9999 + 1) t (.pointer none) (.pointer a)).run P w = _
  generalize 9999 = d
  simp only [Op.equalIn, Sem.run_bind, run_underlying' ht, Result.andThen_ok, Sem.run_pure]

theorem run_eqGuard_plain {P : Program} {op : BinOp} {t : TypeId} {x y : Operand} {a b : Value} (w : World) (h : (a ≠ .nilIface ∨ b ≠ .nilIface) ∧ (∀ cs, a ≠ .agg cs)) : (eqGuard op t x y a b).run P w = .ok () w := by
  obtain ⟨h1, h2⟩ := h
  unfold eqGuard
  cases op <;> (try rfl) <;> (cases a <;> cases b <;> first | rfl | simp_all)

theorem run_bin {P : Program} {op : BinOp} {t : TypeId} {x y : AV} {a b : Value} {X Y : Operand} {Γ : Gh} (w : World) (hs : binS P op t x y) (hx : VR Γ x a) (hy : VR Γ y b) :
    ∃ v, (do eqGuard op t X Y a b; binOp op t a b : Sem Value).run P w = .ok v w ∧ VR Γ (binV op x y) v := by
  unfold binS at hs
  unfold binV
  split at hs
  · rename_i k n k' m
    cases hx; cases hy
    obtain ⟨v, h1, h2⟩ := run_binOp_int (P := P) hs t Γ w
    exact ⟨v, by simp [run_eqGuard_plain, h1], h2⟩
  · cases hx; cases hy
    obtain ⟨v, h1, h2⟩ := run_binOp_str (P := P) hs t Γ w
    exact ⟨v, by simp [run_eqGuard_plain, h1], h2⟩
  · rename_i p q
    cases hx; cases hy
    obtain ⟨ho, ht⟩ := hs
    have he := run_equal_bool ht p q w
    cases op <;> simp only [eqOp] at ho
    · exact ⟨.bool (p == q), by rw [Sem.run_bind, run_eqGuard_plain w (by simp)]; simp only [Result.andThen_ok, binOp, Sem.run_bind, he, Sem.run_pure], .bool _⟩
    · exact ⟨.bool (!(p == q)), by rw [Sem.run_bind, run_eqGuard_plain w (by simp)]; simp only [Result.andThen_ok, binOp, Sem.run_bind, he, Sem.run_pure], .bool _⟩
  · obtain ⟨ho, ht⟩ := hs
    cases hx with
    | agg h1 hx =>
      cases hy with
      | agg h2 hy =>
        obtain ⟨g, e⟩ := ht Γ _ _ w hx hy
        cases op <;> simp only [eqOp] at ho
        · exact ⟨.bool (eqCells _ _), by rw [Sem.run_bind, g]; simp only [Result.andThen_ok, binOp, Sem.run_bind, e, Sem.run_pure], .bool _⟩
        · exact ⟨.bool (!(eqCells _ _)), by rw [Sem.run_bind, g]; simp only [Result.andThen_ok, binOp, Sem.run_bind, e, Sem.run_pure], .bool _⟩
  case h_10 =>
    rename_i own xs ys
    obtain ⟨ho, ht⟩ := hs
    unfold isSlT at ht
    split at ht
    case h_2 => exact ht.elim
    rename_i e ht'
    have hy' : b = .slice none 0 0 ∨ ∃ c, b = .slice none 0 c := by
      cases hy with
      | sl0 h => obtain ⟨h1, h2⟩ := h; subst h2; subst h1; exact .inl rfl
      | sl hn hs h1 h hi ho hc => obtain ⟨_, h2⟩ := ho; cases h2
    have hx' : ∃ ad cap, a = .slice ad xs.length cap ∧ (xs.length ≠ 0 → ad.isNone = false) := by
      cases hx with
      | sl0 h => exact ⟨_, _, rfl, fun h => absurd rfl h⟩
      | sl hn hs h1 h hi ho hc => subst hn; exact ⟨_, _, rfl, fun _ => rfl⟩
    obtain ⟨ad, cap, rfl, hn⟩ := hx'
    have he : ∀ c, (Op.equal t (.slice ad xs.length cap) (.slice none 0 c)).run P w = .ok ad.isNone w := by
      intro c
      show (Op.equalIn (9999 + 1) t _ _).run P w = _
      generalize 9999 = d
      cases ad <;> simp only [Op.equalIn, Sem.run_bind, run_underlying' ht', Result.andThen_ok, Sem.run_pure] <;> rfl
    obtain ⟨c, rfl⟩ : ∃ c, b = .slice none 0 c := by rcases hy' with h | ⟨c, h⟩; exact ⟨0, h⟩; exact ⟨c, h⟩
    unfold nilV
    cases op <;> simp only [eqOp] at ho
    · refine ⟨.bool ad.isNone, by rw [Sem.run_bind, run_eqGuard_plain w (by simp)]; simp only [Result.andThen_ok, binOp, Sem.run_bind, he, Sem.run_pure], ?_⟩
      split
      · exact .ub _
      · rename_i h0; rw [hn h0]; exact .bool _
    · refine ⟨.bool (!ad.isNone), by rw [Sem.run_bind, run_eqGuard_plain w (by simp)]; simp only [Result.andThen_ok, binOp, Sem.run_bind, he, Sem.run_pure], ?_⟩
      split
      · exact .ub _
      · rename_i h0; rw [hn h0]; exact .bool _
  all_goals first
    | exact hs.elim
    | (obtain ⟨ho, ht⟩ := hs
       unfold isPtrT at ht
       split at ht
       case h_2 => exact ht.elim
       rename_i e ht'
       cases hx <;> cases hy <;> cases op <;> simp only [eqOp] at ho
       all_goals
         refine ⟨_, by rw [Sem.run_bind, run_eqGuard_plain w (by simp)]; simp only [Result.andThen_ok, binOp, Sem.run_bind, run_equal_ptr_l ht', run_equal_ptr_r ht', Sem.run_pure]; rfl, .bool _⟩)

end Go.Proofs.YtjplcdeaedflpaaGreatDoor.PL

namespace Go.Proofs.YtjplcdeaedflpaaGreatDoor.PL
open Go.RowKit

section types
variable (P : Program)
/-- A struct's field: where it lies, its cells, is it a struct or an array. -/
def fldOf (s f : Nat) : Option (Nat × Nat × Bool) :=
  match P.underlying s with
  | some (.struct fs) => (fs[f]?).bind fun fd => (szOf P fd.type).bind fun n => (aggOf P fd.type).map fun b => (fd.offset, n, b)
  | _ => none
def slOf (t : TypeId) : Option (TypeId × Nat) :=
  match P.underlying t with
  | some (.slice e) => (szOf P e).map fun n => (e, n)
  | _ => none
def arrOf (t : TypeId) : Option (Nat × TypeId × Nat × Bool) :=
  match P.underlying t with
  | some (.array len e) => (szOf P e).bind fun n => (aggOf P e).map fun b => (len, e, n, b)
  | _ => none
end types

theorem fldOf_some {P : Program} {s f off n : Nat} {b : Bool} (h : fldOf P s f = some (off, n, b)) :
    ∃ fs fd, P.underlying s = some (.struct fs) ∧ fs[f]? = some fd ∧ fd.offset = off ∧ szOf P fd.type = some n ∧ aggOf P fd.type = some b := by
  unfold fldOf at h
  split at h
  · rename_i fs hs
    cases hf : fs[f]? with
    | none => rw [hf] at h; cases h
    | some fd =>
      rw [hf] at h
      simp only [Option.bind_some] at h
      cases hn : szOf P fd.type with
      | none => rw [hn] at h; cases h
      | some m =>
        rw [hn] at h
        simp only [Option.bind_some] at h
        cases hb : aggOf P fd.type with
        | none => rw [hb] at h; cases h
        | some c =>
          rw [hb] at h
          simp at h
          obtain ⟨rfl, rfl, rfl⟩ := h
          exact ⟨fs, fd, hs, hf, rfl, hn, hb⟩
  · cases h

theorem slOf_some {P : Program} {t e n : Nat} (h : slOf P t = some (e, n)) : P.underlying t = some (.slice e) ∧ szOf P e = some n := by
  unfold slOf at h
  split at h
  · rename_i e' hs
    cases hn : szOf P e' with
    | none => rw [hn] at h; cases h
    | some m => rw [hn] at h; simp at h; obtain ⟨rfl, rfl⟩ := h; exact ⟨hs, hn⟩
  · cases h

theorem arrOf_some {P : Program} {t len e n : Nat} {b : Bool} (h : arrOf P t = some (len, e, n, b)) : P.underlying t = some (.array len e) ∧ szOf P e = some n ∧ aggOf P e = some b := by
  unfold arrOf at h
  split at h
  · rename_i l' e' hs
    cases hn : szOf P e' with
    | none => rw [hn] at h; cases h
    | some m =>
      rw [hn] at h
      simp only [Option.bind_some] at h
      cases hb : aggOf P e' with
      | none => rw [hb] at h; cases h
      | some c => rw [hb] at h; simp at h; obtain ⟨rfl, rfl, rfl, rfl⟩ := h; exact ⟨hs, hn, hb⟩
  · cases h

/-! ### pick -/
def ifAV (t : Bool) (x y : AV) : AV :=
  match x, y with
  | .bool p, .bool q => .bool (bif t then p else q)
  | x, y => bif t then x else y

theorem VR.ifAV {Γ : Gh} {t : Bool} {x y : AV} {v u : Value} (hx : t = true → VR Γ x v) (hy : t = false → VR Γ y u) : VR Γ (ifAV t x y) (if t = true then v else u) := by
  unfold PL.ifAV
  split
  · cases t
    · have := hy rfl; cases this; exact .bool _
    · have := hx rfl; cases this; exact .bool _
  · cases t
    · exact hy rfl
    · exact hx rfl

def pickV (c x y : AV) : AV := match c with | .bool t => ifAV t x.un y.un | .opt _ (.bool t) => ifAV t x.un y.un | _ => .any
def pickS (c x y : AV) : Prop := match c with | .bool t => (t = true → x.optB = true) ∧ (t = false → y.optB = true) | .opt g (.bool t) => g = true ∧ (t = true → x.optB = true) ∧ (t = false → y.optB = true) | _ => False

theorem pick_run {P : Program} {Γ : Gh} {w : World} {c x y : AV} {vc vx vy : Value} (hs : pickS c x y) (hc : VR Γ c vc) (hx : VR Γ x vx) (hy : VR Γ y vy) :
    ∃ v, (do pure (if ← asBool vc then vx else vy) : Sem Value).run P w = .ok v w ∧ VR Γ (pickV c x y) v := by
  unfold pickS at hs
  split at hs
  · cases hc
    rename_i t
    exact ⟨if t = true then vx else vy, by simp [asBool], VR.ifAV (fun h => hx.un (hs.1 h)) (fun h => hy.un (hs.2 h))⟩
  · rename_i g t
    obtain ⟨rfl, hs⟩ := hs
    cases hc with
    | opt h1 h2 =>
      have h1 := h1 rfl
      cases h1
      exact ⟨if t = true then vx else vy, by simp [asBool], VR.ifAV (fun h => hx.un (hs.1 h)) (fun h => hy.un (hs.2 h))⟩
  · exact hs.elim

/-! ### load -/
def loadV (P : Program) (t : TypeId) (x : AV) : AV :=
  match x with
  | .ref cs => match aggOf P t, szOf P t with
    | some true, some n => .agg (cs.take n)
    | some false, _ => cs.headD .any
    | _, _ => .any
  | _ => .any
def loadS (P : Program) (t : TypeId) (x : AV) : Prop :=
  match x with
  | .ref cs => match aggOf P t, szOf P t with
    | some true, some n => n ≤ cs.length
    | some false, _ => cs ≠ []
    | _, _ => False
  | _ => False

theorem load_run {P : Program} {Γ : Gh} {w : World} (hw : ∀ b o v, Γ.I b o = some v → w.cell? ⟨b, o, none⟩ = some v) {t : TypeId} {x : AV} {u : Value} (hs : loadS P t x) (hx : VR Γ x u) :
    ∃ v, (Instr.loadAt t u).run P w = .ok v w ∧ VR Γ (loadV P t x) v := by
  unfold loadS at hs
  split at hs
  · rename_i cs
    unfold loadV
    cases hx with
    | @ref _ vs b off h1 h hi =>
      have hl := run_loadVar_at (P := P) (t := t) hw hi
      dsimp only
      split at hs
      · rename_i n ha' hn
        have hr := hl.1 n ha' hn (by rw [← h.length]; exact hs)
        exact ⟨_, by simp [Instr.loadAt, Instr.sureAddr]; exact hr, .agg (fun x hx => h1 x (List.mem_of_mem_take hx)) (h.take n)⟩
      · rename_i ha'
        cases h with
        | nil => exact absurd rfl hs
        | cons r t =>
          have hr := hl.2 _ ha' rfl
          exact ⟨_, by simp [Instr.loadAt, Instr.sureAddr]; exact hr, r⟩
      · exact hs.elim
  · exact hs.elim

/-! ### the address of a field -/
def faV (P : Program) (s : TypeId) (x : AV) (f : Nat) : AV :=
  match fldOf P s f with
  | some (off, _, _) => match x with | .ref cs => .ref (cs.drop off) | .ptr id o => .ptr id (o + off) | .eptr id n o => .eptr id n (o + off) | _ => .any
  | none => .any
def faS (P : Program) (s : TypeId) (x : AV) (f : Nat) : Prop :=
  match fldOf P s f with
  | some (_, n, _) => n ≠ 0 ∧ match x with | .ref _ | .ptr _ _ | .eptr _ _ _ => True | _ => False
  | none => False

theorem run_fieldAt {P : Program} {s f off n b o : Nat} {ag : Bool} (h : fldOf P s f = some (off, n, ag)) (hn : n ≠ 0) (w : World) :
    (Instr.fieldAt s (.pointer (some ⟨b, o, none⟩)) f).run P w = .ok (.pointer (some ⟨b, o + off, none⟩)) w := by
  obtain ⟨fs, fd, h1, h2, h3, h4, _⟩ := fldOf_some h
  simp [Instr.fieldAt, run_underlying' h1, h2, Instr.sureAddr, fieldPlace, run_sizeOf' h4, hn, addr_add, h3]

theorem Gh.At.drop {Γ : Gh} {b o : Nat} {vs : List Value} (h : Γ.At b o vs) (n : Nat) : Γ.At b (o + n) (vs.drop n) := by
  intro i v hv
  rw [List.getElem?_drop] at hv
  have := h _ _ hv
  rwa [Nat.add_assoc]

theorem fa_run {P : Program} {Γ : Gh} {w : World} {s : TypeId} {x : AV} {f : Nat} {u : Value} (hs : faS P s x f) (hx : VR Γ x u) :
    ∃ v, (Instr.fieldAt s u f).run P w = .ok v w ∧ VR Γ (faV P s x f) v := by
  unfold faS at hs
  split at hs
  · rename_i off n ag hf
    obtain ⟨hn, hs⟩ := hs
    unfold faV
    rw [hf]
    split at hs
    · cases hx with
      | @ref _ vs b off' h1 h hi =>
        exact ⟨_, run_fieldAt hf hn w, .ref (fun x hx => h1 x (List.mem_of_mem_drop hx)) (h.drop off) (hi.drop off)⟩
    · cases hx with
      | ptr hb => exact ⟨_, run_fieldAt hf hn w, .ptr hb⟩
    · cases hx with
      | eptr hb => exact ⟨_, run_fieldAt hf hn w, .eptr hb⟩
    · exact hs.elim
  · exact hs.elim

/-! ### the address of an element -/
theorem cells_at {sz : Nat} : ∀ (xs : List AV), (∀ x, x ∈ xs → x.cells.length = sz) → ∀ (n : Nat) (x : AV), xs[n]? = some x → ((xs.flatMap AV.cells).drop (n * sz)).take sz = x.cells
  | [], _, n, x, h => by simp at h
  | y :: ys, hs, 0, x, h => by
    simp at h; subst h
    have := hs y (List.mem_cons_self ..)
    simp [List.flatMap_cons, ← this]
  | y :: ys, hs, n + 1, x, h => by
    simp at h
    have hy := hs y (List.mem_cons_self ..)
    have ih := cells_at ys (fun z hz => hs z (List.mem_cons_of_mem _ hz)) n x h
    rw [List.flatMap_cons, show (n + 1) * sz = y.cells.length + n * sz by rw [Nat.add_mul, hy]; omega, List.drop_append, ← ih]
    rw [List.drop_of_length_le (by omega), List.nil_append, Nat.add_sub_cancel_left]

def iaV (P : Program) (t : TypeId) (x i : AV) : AV :=
  match x, i with
  | .sl _ xs, .int _ n => .ref ((xs.getD n.toNat .any).cells)
  | .ref cs, .int _ n => match arrOf P t with | some (_, _, sz, _) => .ref (cs.drop (n.toNat * sz)) | none => .any
  | .ptr id o, .int _ n => match arrOf P t with | some (_, _, sz, _) => .ptr id (o + n.toNat * sz) | none => .any
  | .mv id n sz off _, .int _ i => .eptr id n ((off + i.toNat) * sz)
  | _, _ => .any
def iaS (P : Program) (t : TypeId) (x i : AV) : Prop :=
  match x, i with
  | .sl _ xs, .int _ n => 0 ≤ n ∧ n < xs.length ∧ match slOf P t with | some (_, sz) => (xs.getD n.toNat .any).cells.length = sz | none => False
  | .ref _, .int _ n | .ptr _ _, .int _ n => match arrOf P t with | some (len, _, _, _) => 0 ≤ n ∧ n < len | none => False
  | .mv _ _ sz _ len, .int _ i => 0 ≤ i ∧ i < len ∧ match slOf P t with | some (_, sz') => sz' = sz | none => False
  | _, _ => False

theorem VR.sl_inv {Γ : Gh} {own : Own} {xs : List AV} {v : Value} (r : VR Γ (.sl own xs) v) : ∃ a cap, v = .slice a xs.length cap ∧ own.fits Γ xs.length a cap ∧ xs.length ≤ cap ∧
    (xs ≠ [] → ∃ b o sz vs, a = some ⟨b, o, none⟩ ∧ (∀ x, x ∈ xs → x.cells.length = sz) ∧ AV.ones (xs.flatMap AV.cells) ∧ VRs Γ (xs.flatMap AV.cells) vs ∧ Γ.At b o vs) := by
  cases r with
  | sl0 ho => exact ⟨_, _, rfl, ho, Nat.zero_le _, fun h => absurd rfl h⟩
  | sl hn hs h1 h hi ho hc => subst hn; exact ⟨_, _, rfl, ho, hc, fun _ => ⟨_, _, _, _, rfl, hs, h1, h, hi⟩⟩

theorem ia_run {P : Program} {Γ : Gh} {w : World} {t : TypeId} {x i : AV} {u vi : Value} (hs : iaS P t x i) (hx : VR Γ x u) (hi : VR Γ i vi) :
    ∃ v, (Instr.indexAt t u vi).run P w = .ok v w ∧ VR Γ (iaV P t x i) v := by
  unfold iaS at hs
  split at hs
  · rename_i own xs k n
    obtain ⟨h0, hlt, hz⟩ := hs
    cases hi
    obtain ⟨ad, cap, rfl, hown, hcap, hcells⟩ := hx.sl_inv
    have hne : xs ≠ [] := by intro e; rw [e] at hlt; simp at hlt; omega
    obtain ⟨b, off, sz, vs, rfl, hs, h1, h, hat⟩ := hcells hne
    split at hz
    · rename_i e sz' hsl
      obtain ⟨hu, hsz⟩ := slOf_some hsl
      have hlt' : n.toNat < xs.length := by omega
      have hx := List.getElem?_eq_getElem hlt'
      have hg : xs.getD n.toNat .any = xs[n.toNat] := by simp [List.getD, hx]
      have hm : xs[n.toNat] ∈ xs := List.getElem_mem hlt'
      have hsz2 : sz' = sz := by rw [← hz, hg]; exact hs _ hm
      subst hsz2
      have hcs := cells_at xs hs n.toNat _ hx
      unfold iaV
      dsimp only
      rw [hg, ← hcs]
      refine ⟨.pointer (some ⟨b, off + n.toNat * sz', none⟩), ?_, ?_⟩
      · simp [Instr.indexAt, asIntOf, run_underlying' hu, h0, hlt, run_sizeOf' hsz, addr_add]
      · refine .ref (fun x hx => h1 x (List.mem_of_mem_drop (List.mem_of_mem_take hx))) ((h.drop (n.toNat * sz')).take sz') ?_
        intro j v hj
        rw [List.getElem?_take] at hj
        split at hj
        · exact hat.drop _ j v hj
        · cases hj
    · exact hz.elim
  · rename_i cs k n
    cases hi
    split at hs
    · rename_i len e sz ag harr
      obtain ⟨hu, hsz, _⟩ := arrOf_some harr
      cases hx with
      | @ref _ vs b off h1 h hat =>
        unfold iaV
        rw [harr]
        refine ⟨.pointer (some ⟨b, off + n.toNat * sz, none⟩), ?_, .ref (fun x hx => h1 x (List.mem_of_mem_drop hx)) (h.drop _) (hat.drop _)⟩
        simp [Instr.indexAt, asIntOf, run_underlying' hu, Instr.sureAddr, hs.1, hs.2, run_sizeOf' hsz, addr_add]
    · exact hs.elim
  · rename_i id off k n
    cases hi
    split at hs
    · rename_i len e sz ag harr
      obtain ⟨hu, hsz, _⟩ := arrOf_some harr
      cases hx with
      | @ptr _ _ b hb =>
        unfold iaV
        rw [harr]
        refine ⟨.pointer (some ⟨b, off + n.toNat * sz, none⟩), ?_, .ptr hb⟩
        simp [Instr.indexAt, asIntOf, run_underlying' hu, Instr.sureAddr, hs.1, hs.2, run_sizeOf' hsz, addr_add]
    · exact hs.elim
  · rename_i id n sz off len k i
    obtain ⟨h0, hlt, hz⟩ := hs
    cases hi
    split at hz
    · rename_i e sz' hsl
      subst hz
      obtain ⟨hu, hsz⟩ := slOf_some hsl
      cases hx with
      | @mv _ _ _ _ _ b cap o h hl hc ho =>
        have ho := ho (by omega)
        subst ho
        refine ⟨.pointer (some ⟨b, off * sz' + i.toNat * sz', none⟩), ?_, ?_⟩
        · simp [Instr.indexAt, asIntOf, run_underlying' hu, h0, hlt, run_sizeOf' hsz, addr_add]
        · unfold iaV
          dsimp only
          rw [← Nat.add_mul]
          exact .eptr h
    · exact hz.elim
  · exact hs.elim

end Go.Proofs.YtjplcdeaedflpaaGreatDoor.PL

namespace Go.Proofs.YtjplcdeaedflpaaGreatDoor.PL
open Go.RowKit

/-! ### index, field, extract, slice, len -/
def byteAt (s : ByteArray) (n : Int) : Int := ((s.data.toList.getD n.toNat 0).toNat : Int)

def ixV (P : Program) (t : TypeId) (x i : AV) : AV :=
  match x, i with
  | .str s, .int _ n => .int .u8 (byteAt s n)
  | .agg cs, .int _ n => match arrOf P t with
    | some (_, _, sz, true) => .agg ((cs.drop (n.toNat * sz)).take sz)
    | some (_, _, sz, false) => cs.getD (n.toNat * sz) .any
    | none => .any
  | _, _ => .any
def ixS (P : Program) (t : TypeId) (x i : AV) : Prop :=
  match x, i with
  | .str s, .int _ n => P.underlying t = some .string ∧ 0 ≤ n ∧ n < s.size
  | .agg cs, .int _ n => match arrOf P t with
    | some (len, _, sz, true) => 0 ≤ n ∧ n < len ∧ n.toNat * sz + sz ≤ cs.length
    | some (len, _, sz, false) => 0 ≤ n ∧ n < len ∧ n.toNat * sz < cs.length
    | none => False
  | _, _ => False

theorem run_part_agg {P : Program} {t sz : Nat} (h : aggOf P t = some true) (hz : szOf P t = some sz) (cs : Array Value) (o : Nat) (w : World) :
    (part t cs o).run P w = .ok (.agg (cs.extract o (o + sz))) w := by
  simp [part, run_isAgg' h, run_sizeOf' hz]
theorem run_part_one {P : Program} {t : Nat} (h : aggOf P t = some false) {cs : Array Value} {o : Nat} {v : Value} (hv : cs[o]? = some v) (w : World) :
    (part t cs o).run P w = .ok v w := by
  simp [part, run_isAgg' h, hv]

theorem VRs.agg_part {Γ : Gh} {cs : List AV} {vs : List Value} (h1 : AV.ones cs) (h : VRs Γ cs vs) (o n : Nat) : VR Γ (.agg ((cs.drop o).take n)) (.agg (vs.toArray.extract o (o + n))) := by
  have e : vs.toArray.extract o (o + n) = ((vs.drop o).take n).toArray := by
    simp [List.extract_toArray, List.extract_eq_take_drop]
  rw [e]
  exact .agg (fun x hx => h1 x (List.mem_of_mem_drop (List.mem_of_mem_take hx))) ((h.drop o).take n)

theorem VRs.getD {Γ : Gh} {cs : List AV} {vs : List Value} (h : VRs Γ cs vs) {o : Nat} (ho : o < cs.length) : ∃ v, vs[o]? = some v ∧ VR Γ (cs.getD o .any) v := by
  obtain ⟨v, h1, h2⟩ := h.get o cs[o] (List.getElem?_eq_getElem ho)
  refine ⟨v, h1, ?_⟩
  rw [List.getD_eq_getElem?_getD, List.getElem?_eq_getElem ho]
  exact h2

theorem ix_run {P : Program} {Γ : Gh} {w : World} {t : TypeId} {x i : AV} {u vi : Value} (hs : ixS P t x i) (hx : VR Γ x u) (hi : VR Γ i vi) :
    ∃ v, (Instr.index t u vi).run P w = .ok v w ∧ VR Γ (ixV P t x i) v := by
  unfold ixS at hs
  split at hs
  · rename_i s k n
    obtain ⟨ht, h0, hlt⟩ := hs
    cases hx; cases hi
    unfold ixV
    dsimp only
    have hl : n.toNat < s.size := by omega
    refine ⟨.int .u8 ((s[n.toNat]'hl).toNat : Int), ?_, ?_⟩
    · simp [Instr.index, asIntOf, run_underlying' ht, h0, getElem?_pos s n.toNat hl]
    · have : byteAt s n = ((s[n.toNat]'hl).toNat : Int) := by
        unfold byteAt
        have hl' : n.toNat < s.data.toList.length := by rw [Array.length_toList]; exact hl
        rw [List.getD_eq_getElem?_getD, List.getElem?_eq_getElem hl']
        rfl
      rw [this]
      exact .int _ _
  · rename_i cs k n
    cases hi
    cases hx with
    | @agg _ vs h1 h =>
    unfold ixV
    split at hs
    · rename_i len e sz harr
      obtain ⟨hu, hsz, hag⟩ := arrOf_some harr
      obtain ⟨h0, hlt, hfit⟩ := hs
      refine ⟨.agg (vs.toArray.extract (n.toNat * sz) (n.toNat * sz + sz)), ?_, ?_⟩
      · simp [Instr.index, asIntOf, run_underlying' hu, h0, hlt, run_sizeOf' hsz, run_part_agg hag hsz]
      · exact VRs.agg_part h1 h _ _
    · rename_i len e sz harr
      obtain ⟨hu, hsz, hag⟩ := arrOf_some harr
      obtain ⟨h0, hlt, hfit⟩ := hs
      obtain ⟨v, hv, hr⟩ := h.getD hfit
      refine ⟨v, ?_, ?_⟩
      · simp [Instr.index, asIntOf, run_underlying' hu, h0, hlt, run_sizeOf' hsz, run_part_one hag (cs := vs.toArray) (by simpa using hv)]
      · exact hr
    · exact hs.elim
  · exact hs.elim

def fdV (P : Program) (t : TypeId) (x : AV) (f : Nat) : AV :=
  match x with
  | .agg cs => match fldOf P t f with
    | some (off, n, true) => .agg ((cs.drop off).take n)
    | some (off, _, false) => cs.getD off .any
    | none => .any
  | _ => .any
def fdS (P : Program) (t : TypeId) (x : AV) (f : Nat) : Prop :=
  match x with
  | .agg cs => match fldOf P t f with
    | some (off, n, true) => off + n ≤ cs.length
    | some (off, _, false) => off < cs.length
    | none => False
  | _ => False
theorem fd_run {P : Program} {Γ : Gh} {w : World} {t : TypeId} {x : AV} {f : Nat} {u : Value} (hs : fdS P t x f) (hx : VR Γ x u) :
    ∃ v, (Instr.field t u f).run P w = .ok v w ∧ VR Γ (fdV P t x f) v := by
  unfold fdS at hs
  split at hs
  · rename_i cs
    cases hx with
    | @agg _ vs h1 h =>
    unfold fdV
    split at hs
    · rename_i off n hf
      obtain ⟨fs, fd, hu, hfd, rfl, hsz, hag⟩ := fldOf_some hf
      exact ⟨.agg (vs.toArray.extract fd.offset (fd.offset + n)), by simp [Instr.field, run_underlying' hu, hfd, asAgg, run_part_agg hag hsz], VRs.agg_part h1 h _ _⟩
    · rename_i off n hf
      obtain ⟨fs, fd, hu, hfd, rfl, hsz, hag⟩ := fldOf_some hf
      obtain ⟨v, hv, hr⟩ := h.getD hs
      exact ⟨v, by simp [Instr.field, run_underlying' hu, hfd, asAgg, run_part_one hag (cs := vs.toArray) (by simpa using hv)], hr⟩
    · exact hs.elim
  · exact hs.elim

def exV (x : AV) (i : Nat) : AV := match x with | .tup vs => vs.getD i .any | _ => .any
def exS (x : AV) (i : Nat) : Prop := match x with | .tup vs => i < vs.length | _ => False
theorem ex_run {P : Program} {Γ : Gh} {w : World} {x : AV} {i : Nat} {u : Value} (hs : exS x i) (hx : VR Γ x u) :
    ∃ v, (Instr.extract u i).run P w = .ok v w ∧ VR Γ (exV x i) v := by
  unfold exS at hs
  split at hs
  · rename_i cs
    cases hx with
    | @tup _ vs h =>
      obtain ⟨v, hv, hr⟩ := h.getD hs
      exact ⟨v, by simp [Instr.extract, hv], hr⟩
  · exact hs.elim

def intOr (d : Int) (x : Option AV) : Int := match x with | some (.int _ n) => n | _ => d
def isInt : Option AV → Prop | some (.int _ _) => True | some _ => False | none => True

def sliceOwn (own : Own) (l h len : Int) (hi mx : Option AV) : Own :=
  match mx with
  | some (.int _ m) => if m = h then .exact else .no
  | some _ => .no
  | none => match hi with
    | none => match own with
      | .exact => .exact
      | .tok t => if l = 0 then .tok t else .no
      | .no => .no
      | .nil => .no
    | some _ => .no

def slcV (x : AV) (lo hi mx : Option AV) : AV :=
  match x with
  | .sl own xs => .sl (sliceOwn own (intOr 0 lo) (intOr xs.length hi) xs.length hi mx) ((xs.take (intOr xs.length hi).toNat).drop (intOr 0 lo).toNat)
  | .str s => .str (s.extract (intOr 0 lo).toNat (intOr s.size hi).toNat)
  | .mv id n sz off len => match mx with
    | none => .mv id n sz (off + (intOr 0 lo).toNat) ((intOr len hi).toNat - (intOr 0 lo).toNat)
    | some _ => .sl .exact []
  | _ => .any
def slcS (P : Program) (t : TypeId) (x : AV) (lo hi mx : Option AV) : Prop :=
  match x with
  | .sl _ xs => isInt lo ∧ isInt hi ∧ isInt mx ∧ (mx ≠ none → hi ≠ none) ∧ 0 ≤ intOr 0 lo ∧ intOr 0 lo ≤ intOr xs.length hi ∧ intOr xs.length hi ≤ intOr xs.length mx ∧ intOr xs.length mx ≤ xs.length ∧
    match slOf P t with | some (_, sz) => ∀ x, x ∈ xs → x.cells.length = sz | none => False
  | .str s => P.underlying t = some .string ∧ isInt lo ∧ isInt hi ∧ mx = none ∧ 0 ≤ intOr 0 lo ∧ intOr 0 lo ≤ intOr s.size hi ∧ intOr s.size hi ≤ s.size
  | .mv _ _ sz _ len => isInt lo ∧ isInt hi ∧ isInt mx ∧ (mx ≠ none → hi ≠ none) ∧ 0 ≤ intOr 0 lo ∧ intOr 0 lo ≤ intOr len hi ∧ intOr len hi ≤ intOr len mx ∧ intOr len mx ≤ len ∧ (mx ≠ none → intOr len mx = 0) ∧
    match slOf P t with | some (_, sz') => sz' = sz | none => False
  | _ => False

def VRo (Γ : Gh) : Option AV → Option Value → Prop
  | none, none => True
  | some x, some v => VR Γ x v
  | _, _ => False

theorem run_b {P : Program} (k : IntKind) (n : Int) (y : Nat) (c : BoundsCode) (h0 : 0 ≤ n) (h1 : n ≤ y) (w : World) : (Instr.sliceBound (.int k n) y c).run P w = .ok n.toNat w := by
  simp [Instr.sliceBound, asIntOf, h0, h1]

theorem VRo.int {Γ : Gh} {x : Option AV} {v : Option Value} (h : VRo Γ x v) (hi : isInt x) : (x = none ∧ v = none) ∨ ∃ k n, x = some (.int k n) ∧ v = some (.int k n) := by
  match x, v, h with
  | none, none, _ => exact .inl ⟨rfl, rfl⟩
  | some (.int k n), some v, h => cases h; exact .inr ⟨k, n, rfl, rfl⟩

theorem run_bounds {P : Program} {Γ : Gh} {isS : Bool} {len cap : Nat} {lo hi mx : Option AV} {vl vh vm : Option Value} (hl : VRo Γ lo vl) (hh : VRo Γ hi vh) (hm : VRo Γ mx vm)
    (il : isInt lo) (ih : isInt hi) (im : isInt mx) (hmh : mx ≠ none → hi ≠ none) (h0 : 0 ≤ intOr 0 lo) (h1 : intOr 0 lo ≤ intOr len hi) (h2 : intOr len hi ≤ intOr len mx) (h3 : intOr len mx ≤ len) (hc : len ≤ cap) (w : World) :
    (Instr.sliceBounds isS len cap vl vh vm).run P w = .ok ((intOr 0 lo).toNat, (intOr len hi).toNat, if mx.isNone then cap else (intOr len mx).toNat) w := by
  unfold Instr.sliceBounds
  rcases hm.int im with ⟨rfl, rfl⟩ | ⟨km, m, rfl, rfl⟩
  · rcases hh.int ih with ⟨rfl, rfl⟩ | ⟨kh, h, rfl, rfl⟩
    · rcases hl.int il with ⟨rfl, rfl⟩ | ⟨kl, l, rfl, rfl⟩
      · simp [intOr]
      · simp only [intOr] at h0 h1 h2 h3 ⊢
        simp only [Sem.run_bind, Sem.run_pure, Result.andThen_ok]
        rw [run_b kl l len _ h0 h1]
        rfl
    · simp only [intOr] at h2 h3
      rcases hl.int il with ⟨rfl, rfl⟩ | ⟨kl, l, rfl, rfl⟩
      · simp only [intOr] at h0 h1 h2 h3 ⊢
        simp only [Sem.run_bind, Sem.run_pure, Result.andThen_ok]
        rw [run_b kh h cap _ (by omega) (by omega)]
        rfl
      · simp only [intOr] at h0 h1 h2 h3 ⊢
        simp only [Sem.run_bind, Sem.run_pure, Result.andThen_ok]
        rw [run_b kh h cap _ (by omega) (by omega)]
        simp only [Result.andThen_ok]
        rw [run_b kl l h.toNat _ (by omega) (by omega)]
        rfl
  · rcases hh.int ih with ⟨rfl, rfl⟩ | ⟨kh, h, rfl, rfl⟩
    · exact absurd rfl (hmh (by simp))
    · rcases hl.int il with ⟨rfl, rfl⟩ | ⟨kl, l, rfl, rfl⟩
      · simp only [intOr] at h0 h1 h2 h3 ⊢
        simp only [Sem.run_bind, Sem.run_pure, Result.andThen_ok]
        rw [run_b km m cap _ (by omega) (by omega)]
        simp only [Result.andThen_ok]
        rw [run_b kh h m.toNat _ (by omega) (by omega)]
        rfl
      · simp only [intOr] at h0 h1 h2 h3 ⊢
        simp only [Sem.run_bind, Sem.run_pure, Result.andThen_ok]
        rw [run_b km m cap _ (by omega) (by omega)]
        simp only [Result.andThen_ok]
        rw [run_b kh h m.toNat _ (by omega) (by omega)]
        simp only [Result.andThen_ok]
        rw [run_b kl l h.toNat _ (by omega) (by omega)]
        rfl

theorem take_drop_cells {sz : Nat} : ∀ (xs : List AV), (∀ x, x ∈ xs → x.cells.length = sz) → ∀ l h, ((xs.take h).drop l).flatMap AV.cells = ((xs.flatMap AV.cells).take (h * sz)).drop (l * sz)
  | [], _, l, h => by simp
  | y :: ys, hs, l, 0 => by simp
  | y :: ys, hs, 0, h + 1 => by
    have hy := hs y (List.mem_cons_self ..)
    have ih := take_drop_cells ys (fun z hz => hs z (List.mem_cons_of_mem _ hz)) 0 h
    simp only [List.drop_zero, Nat.zero_mul] at ih ⊢
    rw [List.take_succ_cons, List.flatMap_cons, ih, List.flatMap_cons, show (h + 1) * sz = y.cells.length + h * sz by rw [Nat.add_mul, hy]; omega, List.take_append]
    rw [List.take_of_length_le (l := y.cells) (by omega), Nat.add_sub_cancel_left]
  | y :: ys, hs, l + 1, h + 1 => by
    have hy := hs y (List.mem_cons_self ..)
    have ih := take_drop_cells ys (fun z hz => hs z (List.mem_cons_of_mem _ hz)) l h
    rw [List.take_succ_cons, List.drop_succ_cons, ih, List.flatMap_cons, show (h + 1) * sz = y.cells.length + h * sz by rw [Nat.add_mul, hy]; omega, List.take_append]
    rw [List.take_of_length_le (l := y.cells) (by omega), Nat.add_sub_cancel_left, show (l + 1) * sz = y.cells.length + l * sz by rw [Nat.add_mul, hy]; omega, List.drop_append]
    rw [List.drop_of_length_le (l := y.cells) (by omega), List.nil_append, Nat.add_sub_cancel_left]

theorem slc_run {P : Program} {Γ : Gh} {w : World} {t : TypeId} {x : AV} {lo hi mx : Option AV} {u : Value} {vl vh vm : Option Value} (hs : slcS P t x lo hi mx) (hx : VR Γ x u)
    (hl : VRo Γ lo vl) (hh : VRo Γ hi vh) (hm : VRo Γ mx vm) : ∃ v, (Instr.sliceAt t u vl vh vm).run P w = .ok v w ∧ VR Γ (slcV x lo hi mx) v := by
  unfold slcS at hs
  split at hs
  · rename_i own xs
    obtain ⟨il, ih, im, hmh, h0, h1, h2, h3, hz⟩ := hs
    split at hz
    · rename_i e sz hsl
      obtain ⟨hu, hsz⟩ := slOf_some hsl
      obtain ⟨a, cap, rfl, hown, hcap, hcells⟩ := hx.sl_inv
      have hb := run_bounds (P := P) (isS := true) hl hh hm il ih im hmh h0 h1 h2 h3 hcap w
      generalize hL : (intOr 0 lo).toNat = L at hb
      generalize hHh : (intOr xs.length hi).toNat = Hh at hb
      generalize hM : (if mx.isNone then cap else (intOr xs.length mx).toNat) = M at hb
      have hLH : L ≤ Hh := by omega
      have hHM : Hh ≤ M := by
        rw [← hM]
        cases mx with
        | none =>
          have h4 : intOr (xs.length : Int) hi ≤ (xs.length : Int) := h2
          simp only [Option.isNone_none, if_true]; omega
        | some z => simp only [Option.isNone_some, Bool.false_eq_true, if_false]; omega
      have hHx : Hh ≤ xs.length := by omega
      have hlen : ((xs.take Hh).drop L).length = Hh - L := by simp; omega
      have hfit : ∀ a', (L = 0 → a' = a) → Own.fits Γ (sliceOwn own (intOr 0 lo) (intOr xs.length hi) xs.length hi mx) (Hh - L) a' (M - L) := by
        intro a' ha'
        unfold sliceOwn
        cases mx with
        | some z =>
          cases z with
          | int k m =>
            dsimp only
            split
            · rename_i e
              simp only [intOr] at hM
              simp at hM
              show M - L = Hh - L
              rw [← hM, ← hHh]
              simp only [e]
            · trivial
          | _ => exact im.elim
        | none =>
          simp at hM
          subst hM
          cases hi with
          | some z => trivial
          | none =>
            simp only [intOr] at hHh
            have hHh : Hh = xs.length := by omega
            cases own with
            | no => trivial
            | nil => trivial
            | exact => show cap - L = Hh - L; rw [hown, hHh]
            | tok t =>
              dsimp only
              split
              · rename_i e
                rw [e] at hL
                have hL0 : L = 0 := by rw [← hL]; rfl
                rw [ha' hL0, hHh, hL0]
                exact hown
              · trivial
      have hrun : (Instr.sliceAt t (.slice a xs.length cap) vl vh vm).run P w = .ok (.slice (if M = L then a else a.map (·.add (L * sz))) (Hh - L) (M - L)) w := by
        simp only [Instr.sliceAt, Sem.run_bind, run_underlying' hu, Result.andThen_ok, Instr.slice, hb, run_sizeOf' hsz, Sem.run_pure]
      refine ⟨_, hrun, ?_⟩
      unfold slcV
      dsimp only
      rw [hL, hHh]
      rcases Nat.eq_zero_or_pos (Hh - L) with h | h
      · have : (xs.take Hh).drop L = [] := List.eq_nil_of_length_eq_zero (by omega)
        rw [this, h]
        refine .sl0 ?_
        rw [← h]
        refine hfit _ fun h => ?_
        subst h
        split
        · rfl
        · cases a with
          | none => rfl
          | some a => simp [Addr.add]
      · have hne : xs ≠ [] := by intro e; rw [e] at hHx; simp at hHx; omega
        obtain ⟨b, o, sz', vs, rfl, hs, h1', hv, hat⟩ := hcells hne
        have hss : sz' = sz := by
          obtain ⟨y, hy⟩ := List.exists_mem_of_ne_nil xs hne
          rw [← hs y hy, hz y hy]
        subst hss
        rw [if_neg (by omega)]
        simp only [Option.map_some, addr_add]
        have e := take_drop_cells xs hs L Hh
        refine .sl hlen.symm (fun x hx => hs x (List.mem_of_mem_take (List.mem_of_mem_drop hx))) ?_ (vs := (vs.take (Hh * sz')).drop (L * sz')) ?_ ?_ ?_ (by omega)
        · rw [e]; exact fun x hx => h1' x (List.mem_of_mem_take (List.mem_of_mem_drop hx))
        · rw [e]; exact (hv.take _).drop _
        · intro i v hi
          rw [List.getElem?_drop, List.getElem?_take] at hi
          split at hi
          · have := hat _ _ hi
            rwa [Nat.add_assoc]
          · cases hi
        · refine hfit _ fun h => ?_
          subst h
          simp
    · exact hz.elim
  · rename_i s
    obtain ⟨hu, il, ih, rfl, h0, h1, h2⟩ := hs
    cases hx
    cases vm with
    | some _ => exact hm.elim
    | none =>
      have hb := run_bounds (P := P) (isS := false) (mx := none) hl hh (vm := none) hm il ih trivial (by simp) h0 h1 h2 (by simp [intOr]) (Nat.le_refl s.size) w
      refine ⟨.string (s.extract (intOr 0 lo).toNat (intOr s.size hi).toNat), ?_, .str _⟩
      simp only [Instr.sliceAt, Sem.run_bind, run_underlying' hu, Result.andThen_ok, Instr.slice, Option.isSome_none, Bool.false_eq_true, if_false, hb, Sem.run_pure]
  · rename_i id n sz off len
    obtain ⟨il, ih, im, hmh, h0, h1, h2, h3, h4, hz⟩ := hs
    split at hz
    · rename_i e sz' hsl
      subst hz
      obtain ⟨hu, hsz⟩ := slOf_some hsl
      cases hx with
      | @mv _ _ _ _ _ b cap o hT hle hnc ho =>
        have hb := run_bounds (P := P) (isS := true) hl hh hm il ih im hmh h0 h1 h2 h3 (show len ≤ cap - off by omega) w
        have hrun : (Instr.sliceAt t (.slice (some ⟨b, o, none⟩) len (cap - off)) vl vh vm).run P w = .ok (.slice (if (if mx.isNone then cap - off else (intOr len mx).toNat) = (intOr 0 lo).toNat then some ⟨b, o, none⟩ else (some ⟨b, o, none⟩ : Option Addr).map (·.add ((intOr 0 lo).toNat * sz')))
            ((intOr len hi).toNat - (intOr 0 lo).toNat) ((if mx.isNone then cap - off else (intOr len mx).toNat) - (intOr 0 lo).toNat)) w := by
          simp only [Instr.sliceAt, Sem.run_bind, run_underlying' hu, Result.andThen_ok, Instr.slice, hb, run_sizeOf' hsz, Sem.run_pure]
        refine ⟨_, hrun, ?_⟩
        unfold slcV
        dsimp only
        cases mx with
        | some z =>
          have h5 := h4 (by simp)
          have e1 : (intOr len (some z)).toNat = 0 := by omega
          have e2 : (intOr len hi).toNat = 0 := by omega
          have e3 : (intOr 0 lo).toNat = 0 := by omega
          simp only [Option.isNone_some, Bool.false_eq_true, if_false, e1, e2, e3, Nat.sub_self]
          exact .sl0 rfl
        | none =>
          simp only [Option.isNone_none, if_true]
          have h6 : intOr (len : Int) hi ≤ (len : Int) := h2
          generalize hL : (intOr 0 lo).toNat = L
          generalize hHh : (intOr len hi).toNat = Hh
          have hLH : L ≤ Hh := by omega
          have hHl : Hh ≤ len := by omega
          rw [Nat.sub_sub]
          by_cases hM : cap - off = L
          · rw [if_pos hM]
            exact .mv hT (by omega) hnc (fun h => by omega)
          · rw [if_neg hM]
            simp only [Option.map_some, addr_add]
            exact .mv hT (by omega) hnc (fun h => by rw [ho (by omega), Nat.add_mul])
    · exact hz.elim
  · exact hs.elim

end Go.Proofs.YtjplcdeaedflpaaGreatDoor.PL

namespace Go.Proofs.YtjplcdeaedflpaaGreatDoor.PL
open Go.RowKit

/-! ### structs and literals -/
def AV.okc : AV → Bool
  | .any | .opt _ _ | .tup _ => false
  | _ => true
theorem VR.okc {Γ : Gh} {x : AV} {v : Value} (r : VR Γ x v) (h : x.okc = true) : VRs Γ x.cells v.cells.toList ∧ AV.ones x.cells := by
  have h1 : x ≠ .any := by rintro rfl; cases h
  have h2 : ∀ b y, x ≠ .opt b y := by rintro b y rfl; cases h
  have h3 : ∀ vs, x ≠ .tup vs := by rintro vs rfl; cases h
  exact ⟨r.cells h1 h2, r.ones h1 h3 h2⟩

def splice {α : Type} (cs : List α) (o : Nat) (vs : List α) : List α := cs.take o ++ vs ++ cs.drop (o + vs.length)

def fillA (pl : List (Nat × Nat)) : List AV → List (Nat × AV) → Option (List AV)
  | cells, [] => some cells
  | cells, (i, v) :: rest =>
    match pl[i]? with
    | none => none
    | some (off, n) => if v.okc = true ∧ v.cells.length = n ∧ off + n ≤ cells.length then fillA pl (splice cells off v.cells) rest else none

def placesOf (P : Program) : List Field → Option (List (Nat × Nat))
  | [] => some []
  | f :: fs => (szOf P f.type).bind fun n => (placesOf P fs).map fun l => (f.offset, n) :: l

def bldOf (P : Program) (t : TypeId) : Option (List (Nat × Nat) × List AV) :=
  match P.underlying t, zOf P t with
  | some (.struct fs), some z => (placesOf P fs.toList).map fun l => (l, z.cells)
  | some (.array len e), some z => (szOf P e).map fun n => ((List.range len).map fun i => (i * n, n), z.cells)
  | _, _ => none

theorem foldl_splice : ∀ (vs : List Value) (k o : Nat) (cs : Array Value), o + k + vs.length ≤ cs.size →
    ((vs.zipIdx k).foldl (fun (cs : Array Value) (x : Value × Nat) => cs.setIfInBounds (o + x.2) x.1) cs).toList = splice cs.toList (o + k) vs
  | [], k, o, cs, _ => by simp [splice]
  | v :: vs, k, o, cs, h => by
    simp at h
    rw [List.zipIdx_cons, List.foldl_cons, foldl_splice vs (k + 1) o _ (by simp; omega)]
    have e := list_seg_step cs.toList (o + k) v vs (by simp; omega)
    simp only [splice, Array.toList_setIfInBounds]
    simpa [Nat.add_assoc] using e

inductive VRp (Γ : Gh) : List (Nat × AV) → List (Nat × Value) → Prop
  | nil : VRp Γ [] []
  | cons {i : Nat} {x : AV} {v : Value} {xs : List (Nat × AV)} {vs : List (Nat × Value)} (h : VR Γ x v) (t : VRp Γ xs vs) : VRp Γ ((i, x) :: xs) ((i, v) :: vs)

theorem fill_ok {Γ : Gh} {pl : List (Nat × Nat)} {place : Nat → Option (Nat × Nat)} (hp : ∀ i p, pl[i]? = some p → place i = some p) :
    ∀ (parts : List (Nat × AV)) (parts' : List (Nat × Value)) (cells r : List AV) (vs : List Value), VRp Γ parts parts' → VRs Γ cells vs → AV.ones cells → fillA pl cells parts = some r →
      ∃ rv, Instr.fill place vs.toArray parts' = some rv.toArray ∧ VRs Γ r rv ∧ AV.ones r ∧ r.length = cells.length
  | _, _, cells, r, vs, .nil, hc, h1, h => by
    simp [fillA] at h; subst h
    exact ⟨vs, rfl, hc, h1, rfl⟩
  | _, _, cells, r, vs, .cons (i := i) (x := x) (v := v) (xs := xs) (vs := ys) hx ht, hc, h1, h => by
    rw [fillA] at h
    cases hpl : pl[i]? with
    | none => rw [hpl] at h; cases h
    | some p =>
      obtain ⟨off, n⟩ := p
      rw [hpl] at h
      dsimp only at h
      split at h
      · rename_i hcond
        obtain ⟨hok, hn, hle⟩ := hcond
        obtain ⟨hvc, hone⟩ := hx.okc hok
        have hvl : v.cells.size = n := by rw [← Array.length_toList, ← hvc.length, hn]
        have hlen := hc.length
        have hsp : VRs Γ (splice cells off x.cells) (splice vs off v.cells.toList) := by
          unfold splice
          rw [show off + v.cells.toList.length = off + x.cells.length by rw [hvc.length]]
          exact ((hc.take off).append hvc).append (hc.drop _)
        have hon : AV.ones (splice cells off x.cells) := by
          intro y hy
          simp only [splice, List.mem_append] at hy
          rcases hy with (hy | hy) | hy
          · exact h1 y (List.mem_of_mem_take hy)
          · exact hone y hy
          · exact h1 y (List.mem_of_mem_drop hy)
        obtain ⟨rv, hr1, hr2, hr3, hr4⟩ := fill_ok hp xs ys _ r _ ht hsp hon h
        refine ⟨rv, ?_, hr2, hr3, ?_⟩
        · rw [Instr.fill, hp i _ hpl]
          dsimp only
          rw [if_neg (by simp; exact ⟨hvl, by rw [hvl, ← hlen]; omega⟩)]
          rw [← hr1]
          congr 1
          have := foldl_splice v.cells.toList 0 off vs.toArray (by simp; rw [hvl, ← hlen]; omega)
          simp only [Nat.add_zero] at this
          rw [← this]
          rw [Array.toArray_toList, ← Array.foldl_toList, Array.toList_zipIdx]
        · rw [hr4]
          simp [splice]
          omega
      · cases h

theorem range_place {len n i : Nat} {p : Nat × Nat} (h : ((List.range len).map fun i => (i * n, n))[i]? = some p) : some (i * n, n) = some p := by
  obtain ⟨hl, he⟩ := List.getElem?_eq_some_iff.1 h
  simp at he
  rw [he]

theorem placesOf_run {P : Program} : ∀ (fs : List Field) (l : List (Nat × Nat)), placesOf P fs = some l → ∀ w, (fs.mapM fun f => do pure (f.offset, ← Go.sizeOf f.type) : Sem (List (Nat × Nat))).run P w = .ok l w
  | [], l, h, w => by simp [placesOf] at h; subst h; rfl
  | f :: fs, l, h, w => by
    rw [placesOf] at h
    cases hn : szOf P f.type with
    | none => rw [hn] at h; cases h
    | some n =>
      rw [hn] at h
      simp only [Option.bind_some] at h
      cases hl : placesOf P fs with
      | none => rw [hl] at h; cases h
      | some m =>
        rw [hl] at h
        simp at h; subst h
        have ih := placesOf_run fs m hl w
        simp only [List.mapM_cons, Sem.run_bind, run_sizeOf' hn, Result.andThen_ok, Sem.run_pure, ih]

theorem zOf_run {P : Program} {t : TypeId} {z : AV} (h : zOf P t = some z) (w : World) : ∃ v, (zeroValue t).run P w = .ok v w ∧ ∀ Γ, VR Γ z v := by
  unfold zOf at h
  cases hi : P.info? t with
  | none => rw [hi] at h; cases h
  | some i =>
    rw [hi] at h
    simp only [Option.bind_some] at h
    cases hz : i.zero with
    | none => rw [hz] at h; cases h
    | some v =>
      rw [hz] at h
      simp at h; subst h
      exact ⟨v, by simp [zeroValue, run_typeInfo' hi, hz], fun Γ => VR.ofVal Γ v⟩

def bldV (P : Program) (t : TypeId) (parts : List (Nat × AV)) : AV :=
  match bldOf P t with
  | some (pl, z) => match fillA pl z parts with | some r => .agg r | none => .any
  | none => .any
def bldS (P : Program) (t : TypeId) (parts : List (Nat × AV)) : Prop :=
  match bldOf P t with
  | some (pl, z) => z.all AV.one = true ∧ (fillA pl z parts).isSome = true
  | none => False

theorem zcells {P : Program} {t : TypeId} {z : AV} {v : Value} (hz : zOf P t = some z) (h1 : z.cells.all AV.one = true) (Γ : Gh) (hv : VR Γ z v) : VRs Γ z.cells v.cells.toList := by
  refine hv.cells ?_ ?_
  · rintro rfl; simp [AV.cells, AV.one] at h1
  · rintro b y rfl; simp [AV.cells, AV.one] at h1

theorem bld_run {P : Program} {Γ : Gh} {w : World} {t : TypeId} {parts : List (Nat × AV)} {vs : List (Nat × Value)} (hs : bldS P t parts) (hp : VRp Γ parts vs) :
    ∃ v, (Instr.build t vs.toArray).run P w = .ok v w ∧ VR Γ (bldV P t parts) v := by
  unfold bldS at hs
  unfold bldV
  split at hs
  · rename_i pl z hb
    obtain ⟨h1, hf⟩ := hs
    obtain ⟨r, hr⟩ := Option.isSome_iff_exists.1 hf
    rw [hr]
    unfold bldOf at hb
    split at hb
    · rename_i fs z' hu hz
      cases hl : placesOf P fs.toList with
      | none => rw [hl] at hb; cases hb
      | some l =>
        rw [hl] at hb
        simp at hb
        obtain ⟨rfl, rfl⟩ := hb
        obtain ⟨zv, hzr, hzv⟩ := zOf_run hz w
        have hzc := zcells hz h1 Γ (hzv Γ)
        obtain ⟨rv, hr1, hr2, hr3, _⟩ := fill_ok (place := (l.toArray[·]?)) (fun i p h => by simpa using h) parts vs z'.cells r zv.cells.toList hp hzc (fun x hx => List.all_eq_true.1 h1 x hx) hr
        refine ⟨.agg rv.toArray, ?_, .agg hr3 hr2⟩
        have hpl := placesOf_run (P := P) fs.toList l hl w
        rw [Array.toArray_toList] at hr1
        have hm : (fs.mapM fun f => do pure (f.offset, ← Go.sizeOf f.type) : Sem (Array (Nat × Nat))).run P w = .ok l.toArray w := by
          rw [Array.mapM_eq_mapM_toList, Sem.run_map, hpl]
          rfl
        simp only [Instr.build, Sem.run_bind, hzr, Result.andThen_ok, run_underlying' hu, hm, hr1, Sem.run_pure]
    · rename_i len e z' hu hz
      cases hn : szOf P e with
      | none => rw [hn] at hb; cases hb
      | some n =>
        rw [hn] at hb
        simp at hb
        obtain ⟨rfl, rfl⟩ := hb
        obtain ⟨zv, hzr, hzv⟩ := zOf_run hz w
        have hzc := zcells hz h1 Γ (hzv Γ)
        obtain ⟨rv, hr1, hr2, hr3, _⟩ := fill_ok (place := fun i => some (i * n, n)) (fun i p h => range_place h) parts vs z'.cells r zv.cells.toList hp hzc (fun x hx => List.all_eq_true.1 h1 x hx) hr
        refine ⟨.agg rv.toArray, ?_, .agg hr3 hr2⟩
        rw [Array.toArray_toList] at hr1
        simp only [Instr.build, Sem.run_bind, hzr, Result.andThen_ok, run_underlying' hu, run_sizeOf' hn, hr1, Sem.run_pure]
    · cases hb
  · exact hs.elim

/-! ### slice literals -/
def regroup (agg : Bool) (sz : Nat) : Nat → List AV → List AV
  | 0, _ => []
  | n + 1, cs => (if agg then .agg (cs.take sz) else cs.headD .any) :: regroup agg sz n (cs.drop sz)

theorem regroup_cells {agg : Bool} {sz : Nat} (ha : agg = false → sz = 1) : ∀ (n : Nat) (cs : List AV), cs.length = n * sz → AV.ones cs →
    (regroup agg sz n cs).flatMap AV.cells = cs ∧ (∀ x, x ∈ regroup agg sz n cs → x.cells.length = sz) ∧ (regroup agg sz n cs).length = n
  | 0, cs, h, _ => by
    have : cs = [] := List.eq_nil_of_length_eq_zero (by omega)
    subst this
    simp [regroup]
  | n + 1, cs, h, h1 => by
    have hl : sz ≤ cs.length := by rw [h, Nat.add_mul]; omega
    obtain ⟨i1, i2, i3⟩ := regroup_cells ha n (cs.drop sz) (by rw [List.length_drop, h, Nat.add_mul]; omega) (fun x hx => h1 x (List.mem_of_mem_drop hx))
    have key : (if agg then AV.agg (cs.take sz) else cs.headD .any).cells = cs.take sz := by
      cases agg with
      | true => rfl
      | false =>
        have hs := ha rfl
        subst hs
        cases cs with
        | nil => simp at hl
        | cons c cs =>
          have := h1 c (List.mem_cons_self ..)
          simp only [Bool.false_eq_true, if_false, List.headD_cons, List.take_succ_cons, List.take_zero]
          cases c <;> first | rfl | (simp [AV.one] at this)
    refine ⟨?_, ?_, by simp [regroup, i3]⟩
    · rw [regroup, List.flatMap_cons, key, i1, List.take_append_drop]
    · intro x hx
      rw [regroup] at hx
      rcases List.mem_cons.1 hx with rfl | hx
      · rw [key, List.length_take]; omega
      · exact i2 x hx

def repeatA (z : List AV) : Nat → List AV
  | 0 => []
  | n + 1 => z ++ repeatA z n

def litOf (P : Program) (t : TypeId) : Option (Bool × Nat × List AV) :=
  match P.underlying t with
  | some (.slice e) => (aggOf P e).bind fun b => (szOf P e).bind fun n => (zOf P e).map fun z => (b, n, z.cells)
  | _ => none

theorem litOf_some {P : Program} {t : TypeId} {b : Bool} {n : Nat} {zs : List AV} (h : litOf P t = some (b, n, zs)) :
    ∃ e z, P.underlying t = some (.slice e) ∧ aggOf P e = some b ∧ szOf P e = some n ∧ zOf P e = some z ∧ zs = z.cells := by
  unfold litOf at h
  split at h
  · rename_i e hu
    cases hb : aggOf P e with
    | none => rw [hb] at h; cases h
    | some b' =>
      rw [hb] at h
      simp only [Option.bind_some] at h
      cases hn : szOf P e with
      | none => rw [hn] at h; cases h
      | some n' =>
        rw [hn] at h
        simp only [Option.bind_some] at h
        cases hz : zOf P e with
        | none => rw [hz] at h; cases h
        | some z => rw [hz] at h; simp at h; obtain ⟨rfl, rfl, rfl⟩ := h; exact ⟨e, z, hu, hb, hn, hz, rfl⟩
  · cases h

def bslV (P : Program) (t : TypeId) (len : Nat) (parts : List (Nat × AV)) : AV :=
  match litOf P t with
  | some (b, n, zs) => match fillA ((List.range len).map fun i => (i * n, n)) (repeatA zs len) parts with | some r => .sl .exact (regroup b n len r) | none => .any
  | none => .any
def bslS (P : Program) (t : TypeId) (len : Nat) (parts : List (Nat × AV)) : Prop :=
  match litOf P t with
  | some (b, n, zs) => (b = false → n = 1) ∧ len * n ≤ 16777216 ∧ zs.length = n ∧ zs.all AV.one = true ∧ (fillA ((List.range len).map fun i => (i * n, n)) (repeatA zs len) parts).isSome = true
  | none => False

theorem repeatA_len {zs : List AV} : ∀ n, (repeatA zs n).length = n * zs.length
  | 0 => by simp [repeatA]
  | n + 1 => by rw [repeatA, List.length_append, repeatA_len n, Nat.add_mul]; omega
theorem repeatA_ones {zs : List AV} (h : AV.ones zs) : ∀ n, AV.ones (repeatA zs n)
  | 0 => fun x hx => by simp [repeatA] at hx
  | n + 1 => fun x hx => by
    rw [repeatA, List.mem_append] at hx
    rcases hx with hx | hx
    · exact h x hx
    · exact repeatA_ones h n x hx

def repeatV (z : List Value) : Nat → List Value
  | 0 => []
  | n + 1 => z ++ repeatV z n
theorem repeat_VRs {Γ : Gh} {zs : List AV} {vs : List Value} (h : VRs Γ zs vs) : ∀ n, VRs Γ (repeatA zs n) (repeatV vs n)
  | 0 => .nil
  | n + 1 => h.append (repeat_VRs h n)
theorem repeatV_get (z : List Value) (hz : 0 < z.length) : ∀ (n i : Nat), i < n * z.length → (repeatV z n)[i]? = z[i % z.length]?
  | 0, i, h => by simp at h
  | n + 1, i, h => by
    rw [repeatV]
    rcases Nat.lt_or_ge i z.length with hi | hi
    · rw [List.getElem?_append_left hi, Nat.mod_eq_of_lt hi]
    · rw [List.getElem?_append_right hi, repeatV_get z hz n (i - z.length) (by rw [Nat.add_mul] at h; omega), Nat.mod_eq_sub_mod hi]
theorem repeatV_len (z : List Value) : ∀ n, (repeatV z n).length = n * z.length
  | 0 => by simp [repeatV]
  | n + 1 => by rw [repeatV, List.length_append, repeatV_len z n, Nat.add_mul]; omega

theorem zero_cells (z : Array Value) (n : Nat) (hz : 0 < z.size) : ((Array.range (n * z.size)).map (z[· % z.size]!)) = (repeatV z.toList n).toArray := by
  apply Array.ext'
  apply List.ext_getElem?
  intro i
  simp only [Array.toList_map, Array.toList_range]
  have hz' : 0 < z.toList.length := by simpa using hz
  rcases Nat.lt_or_ge i (n * z.size) with h | h
  · rw [repeatV_get z.toList hz' n i (by simpa using h)]
    simp [List.getElem?_map, List.getElem?_range h]
    rw [getElem!_pos z (i % z.size) (Nat.mod_lt _ hz), getElem?_pos z (i % z.size) (Nat.mod_lt _ hz)]
  · rw [List.getElem?_eq_none (by simpa using h), List.getElem?_eq_none (by rw [repeatV_len]; simpa using h)]

/-- A slice literal: a new row whose cells stay. -/
theorem bsl_run {P : Program} {w0 : Bs} {Γ : Gh} {H : List HO} {w : World} {t : TypeId} {len : Nat} {parts : List (Nat × AV)} {vs : List (Nat × Value)} (hr : R w0 Γ H w) (hs : bslS P t len parts) (hp : VRp Γ parts vs) :
    ∃ Γ' v w', (Instr.buildSlice t len vs.toArray).run P w = .ok v w' ∧ Gh.Le Γ Γ' ∧ VR Γ' (bslV P t len parts) v ∧ R w0 Γ' H w' := by
  unfold bslS at hs
  unfold bslV
  split at hs
  · rename_i b n zs hl
    obtain ⟨hb1, hmax, hzl, h1, hf⟩ := hs
    obtain ⟨e, z, hu, ha, hn, hz, rfl⟩ := litOf_some hl
    obtain ⟨r, hr'⟩ := Option.isSome_iff_exists.1 hf
    rw [hr']
    obtain ⟨zv, hzr, hzv⟩ := zOf_run hz w
    have hzc := zcells hz h1 Γ (hzv Γ)
    have hzs : zv.cells.size = n := by rw [← Array.length_toList, ← hzc.length, hzl]
    have h1' : AV.ones z.cells := fun x hx => List.all_eq_true.1 h1 x hx
    obtain ⟨rv, hr1, hr2, hr3, hr4⟩ := fill_ok (place := fun i => some (i * n, n)) (fun i p h => range_place h) parts vs _ r _ hp (repeat_VRs hzc len) (repeatA_ones h1' len) hr'
    have hrow := hr.newRow rv.toArray e
    have hle := hr.le_addI (rv.toArray.toList)
    obtain ⟨g1, g2, g3⟩ := regroup_cells hb1 len r (by rw [hr4, repeatA_len, hzl]) hr3
    refine ⟨Γ.addI w.heap.size rv.toArray.toList, .slice (some ⟨w.heap.size, 0, none⟩) len len, w.alloc (.cells rv.toArray e), ?_, hle, ?_, hrow⟩
    · have hmax' : ¬ len * n > 2 ^ 24 := by omega
      by_cases h0 : len * n = 0
      · have hfill : Instr.fill (fun i => some (i * n, n)) ((Array.range (len * n)).map fun x => (#[] : Array Value)[x % (#[] : Array Value).size]!) vs = some rv.toArray := by
          rw [← hr1]
          congr 1
          simp only [h0]
          have : (repeatV zv.cells.toList len).length = 0 := by rw [repeatV_len, Array.length_toList, hzs, h0]
          rw [List.eq_nil_of_length_eq_zero this]
          simp
        simp only [Instr.buildSlice, Sem.run_bind, run_underlying' hu, Result.andThen_ok, run_sizeOf' hn, if_neg hmax', if_pos h0, Sem.run_pure, hfill, newRow, run_newObj]
        rfl
      · have hfill : Instr.fill (fun i => some (i * n, n)) ((Array.range (len * n)).map fun x => zv.cells[x % zv.cells.size]!) vs = some rv.toArray := by
          rw [← hr1]
          congr 1
          have hpos : 0 < zv.cells.size := by rw [hzs]; exact Nat.pos_of_ne_zero (fun e => h0 (by rw [e, Nat.mul_zero]))
          have := zero_cells zv.cells len hpos
          rw [hzs] at this ⊢
          exact this
        simp only [Instr.buildSlice, Sem.run_bind, run_underlying' hu, Result.andThen_ok, run_sizeOf' hn, if_neg hmax', if_neg h0, hzr, Sem.run_pure, hfill, newRow, run_newObj]
        rfl
    · rcases Nat.eq_zero_or_pos len with h0 | hpos
      · subst h0
        simp only [regroup]
        exact .sl0 rfl
      · refine .sl (own := .exact) g3.symm g2 (by rw [g1]; exact hr3) (by rw [g1]; exact hr2.mono hle) ?_ rfl (Nat.le_refl _)
        simpa using Gh.at_addI Γ w.heap.size rv
  · exact hs.elim

end Go.Proofs.YtjplcdeaedflpaaGreatDoor.PL
