/- Expressions: how many, how deep, their columns. -/
import Derived.Test.YtcjfjoilgnlemaaFTree
import Derived.Test.YtcjfjoilgnlemaaPLe
namespace Go.Proofs.Ytcjfjoilgnlemaa.PL
open Go.Proofs
set_option linter.unusedVariables false
set_option linter.unusedSimpArgs false
namespace Ex'
mutual
def nodes : Ex' → Nat
  | mk _ _ _ _ _ _ l => 1 + nodesL l
def nodesL : List Ex' → Nat
  | [] => 0
  | e :: l => nodes e + nodesL l
end
mutual
def depth : Ex' → Nat
  | mk _ _ _ _ _ _ l => depthL l + 1
def depthL : List Ex' → Nat
  | [] => 0
  | e :: l => max (depth e) (depthL l)
end
mutual
def sums : Ex' → Bool
  | mk op _ _ _ _ _ l => (decide (17 ≤ op) && decide (op ≤ 21)) || sumsL l
def sumsL : List Ex' → Bool
  | [] => false
  | e :: l => sums e || sumsL l
end
mutual
def cols : Ex' → List Ex'
  | mk op tab name t c v l => if op = 15 then [mk op tab name t c v l] else colsL l
def colsL : List Ex' → List Ex'
  | [] => []
  | e :: l => cols e ++ colsL l
end
mutual
def flat : Ex' → Nat → List (Ex' × Nat)
  | mk op tab name t c v l, d => (mk op tab name t c v l, d) :: flatL l (d + 1)
def flatL : List Ex' → Nat → List (Ex' × Nat)
  | [], _ => []
  | e :: l, d => flat e d ++ flatL l d
end
mutual
def cnt : Ex' → Int → Int
  | mk _ tab name _ _ v l, n => if 200 < (tab.size : Int) + name.size + v.s.size then n else cntL l n 1
def cntL : List Ex' → Int → Int → Int
  | [], _, c => c
  | e :: l, n, c => if c < n then cntL l n (c + cnt e (n - c)) else c
end
theorem nodes_eq (e : Ex') : e.nodes = 1 + nodesL e.l := by cases e; rw [nodes]; rfl
theorem depth_eq (e : Ex') : e.depth = depthL e.l + 1 := by cases e; rw [depth]; rfl
theorem sums_eq (e : Ex') : e.sums = ((decide (17 ≤ e.op) && decide (e.op ≤ 21)) || sumsL e.l) := by cases e; rw [sums]; rfl
theorem cols_eq (e : Ex') : e.cols = if e.op = 15 then [e] else colsL e.l := by cases e; rw [cols]; rfl
theorem flat_eq (e : Ex') (d : Nat) : e.flat d = (e, d) :: flatL e.l (d + 1) := by cases e; rw [flat]; rfl
theorem cnt_eq (e : Ex') (n : Int) : e.cnt n = if 200 < (e.tab.size : Int) + e.name.size + e.v.s.size then n else cntL e.l n 1 := by cases e; rw [cnt]; rfl
theorem nodesL_append : ∀ a b : List Ex', nodesL (a ++ b) = nodesL a + nodesL b
  | [], b => by simp [nodesL]
  | e :: a, b => by simp only [List.cons_append, nodesL, nodesL_append a b]; omega
theorem depthL_append : ∀ a b : List Ex', depthL (a ++ b) = max (depthL a) (depthL b)
  | [], b => by simp [depthL]
  | e :: a, b => by simp only [List.cons_append, depthL, depthL_append a b]; omega
theorem sumsL_append : ∀ a b : List Ex', sumsL (a ++ b) = (sumsL a || sumsL b)
  | [], b => by simp [sumsL]
  | e :: a, b => by simp only [List.cons_append, sumsL, sumsL_append a b, Bool.or_assoc]
theorem colsL_append : ∀ a b : List Ex', colsL (a ++ b) = colsL a ++ colsL b
  | [], b => by simp [colsL]
  | e :: a, b => by simp only [List.cons_append, colsL, colsL_append a b, List.append_assoc]
theorem flatL_append (d : Nat) : ∀ a b : List Ex', flatL (a ++ b) d = flatL a d ++ flatL b d
  | [], b => by simp [flatL]
  | e :: a, b => by simp only [List.cons_append, flatL, flatL_append d a b, List.append_assoc]
theorem nodesL_one (e : Ex') : nodesL [e] = e.nodes := by simp [nodesL]
theorem depthL_one (e : Ex') : depthL [e] = e.depth := by simp [depthL]
theorem sumsL_one (e : Ex') : sumsL [e] = e.sums := by simp [sumsL]
theorem colsL_one (e : Ex') : colsL [e] = e.cols := by simp [colsL]
theorem flatL_one (e : Ex') (d : Nat) : flatL [e] d = e.flat d := by simp [flatL]
theorem nodesL_take {l : List Ex'} {i : Nat} (h : i < l.length) : nodesL (l.take (i + 1)) = nodesL (l.take i) + l[i].nodes := by rw [take_next h, nodesL_append, nodesL_one]
theorem depthL_take {l : List Ex'} {i : Nat} (h : i < l.length) : depthL (l.take (i + 1)) = max (depthL (l.take i)) l[i].depth := by rw [take_next h, depthL_append, depthL_one]
theorem colsL_take {l : List Ex'} {i : Nat} (h : i < l.length) : colsL (l.take (i + 1)) = colsL (l.take i) ++ l[i].cols := by rw [take_next h, colsL_append, colsL_one]
theorem flatL_take {l : List Ex'} {i d : Nat} (h : i < l.length) : flatL (l.take (i + 1)) d = flatL (l.take i) d ++ l[i].flat d := by rw [take_next h, flatL_append, flatL_one]
theorem nodesL_le {l : List Ex'} (i : Nat) : nodesL (l.take i) ≤ nodesL l := by
  have := congrArg nodesL (List.take_append_drop i l)
  rw [nodesL_append] at this
  omega
theorem nodesL_mem {l : List Ex'} {x : Ex'} (h : x ∈ l) : x.nodes ≤ nodesL l := by
  induction l with
  | nil => cases h
  | cons y l ih =>
    simp only [nodesL]
    rcases List.mem_cons.1 h with rfl | h
    · omega
    · have := ih h; omega
theorem nodes_pos (e : Ex') : 1 ≤ e.nodes := by rw [nodes_eq]; omega
theorem len_le : ∀ l : List Ex', l.length ≤ nodesL l
  | [] => by simp
  | e :: l => by have := nodes_pos e; have := len_le l; simp only [nodesL, List.length_cons]; omega
theorem flat_len (e : Ex') : ∀ d, (e.flat d).length = e.nodes := by
  induction e using ind with
  | h e ih =>
    intro d
    rw [flat_eq, nodes_eq, List.length_cons]
    have key : ∀ l : List Ex', (∀ x, x ∈ l → ∀ d, (x.flat d).length = x.nodes) → (flatL l (d + 1)).length = nodesL l := by
      intro l
      induction l with
      | nil => intro _; rfl
      | cons y l ihl =>
        intro h
        simp only [flatL, nodesL, List.length_append]
        rw [h y (List.mem_cons_self ..), ihl fun x hx => h x (List.mem_cons_of_mem _ hx)]
    rw [key _ ih]; omega
theorem cols_len (e : Ex') : e.cols.length ≤ e.nodes := by
  induction e using ind with
  | h e ih =>
    rw [cols_eq, nodes_eq]
    have key : ∀ l : List Ex', (∀ x, x ∈ l → x.cols.length ≤ x.nodes) → (colsL l).length ≤ nodesL l := by
      intro l
      induction l with
      | nil => intro _; simp [colsL]
      | cons y l ihl =>
        intro h
        have := h y (List.mem_cons_self ..)
        have := ihl fun x hx => h x (List.mem_cons_of_mem _ hx)
        simp only [colsL, nodesL, List.length_append]
        omega
    have := key _ ih
    split
    · simp
    · omega
theorem colsL_len (l : List Ex') : (colsL l).length ≤ nodesL l := by
  induction l with
  | nil => simp [colsL]
  | cons y l ih => have := cols_len y; simp only [colsL, nodesL, List.length_append]; omega
theorem depth_le (e : Ex') : e.depth ≤ e.nodes := by
  induction e using ind with
  | h e ih =>
    rw [depth_eq, nodes_eq]
    have key : ∀ l : List Ex', (∀ x, x ∈ l → x.depth ≤ x.nodes) → depthL l ≤ nodesL l := by
      intro l
      induction l with
      | nil => intro _; simp [depthL]
      | cons y l ihl =>
        intro h
        have := h y (List.mem_cons_self ..)
        have := ihl fun x hx => h x (List.mem_cons_of_mem _ hx)
        simp only [depthL, nodesL]
        omega
    have := key _ ih
    omega
/-- what the count tells -/
theorem cnt_ok (e : Ex') : ∀ n : Int, 1 ≤ n → 1 ≤ e.cnt n ∧ e.cnt n ≤ n ∧ min n e.nodes ≤ e.cnt n := by
  induction e using ind with
  | h e ih =>
    intro n hn
    rw [cnt_eq, nodes_eq]
    split
    · omega
    · have key : ∀ l : List Ex', (∀ x, x ∈ l → ∀ n : Int, 1 ≤ n → 1 ≤ x.cnt n ∧ x.cnt n ≤ n ∧ min n x.nodes ≤ x.cnt n) → ∀ c : Int, 1 ≤ c → c ≤ n → 1 ≤ cntL l n c ∧ cntL l n c ≤ n ∧ min n (c + nodesL l) ≤ cntL l n c := by
        intro l
        induction l with
        | nil => intro _ c h1 h2; simp only [cntL, nodesL]; omega
        | cons y l ihl =>
          intro h c h1 h2
          simp only [cntL, nodesL]
          split
          · have a := h y (List.mem_cons_self ..) (n - c) (by omega)
            have b := ihl (fun x hx => h x (List.mem_cons_of_mem _ hx)) (c + y.cnt (n - c)) (by omega) (by omega)
            omega
          · omega
      have := key _ ih 1 (by omega) hn
      omega
end Ex'
def muchE (e : Ex') : Bool := decide (200 < e.cnt 400)
theorem muchE_no {e : Ex'} (h : muchE e = false) : e.nodes ≤ 200 := by
  have := e.cnt_ok 400 (by omega)
  unfold muchE at h
  simp at h
  omega
/-! how they come in -/
theorem ft_fields {P : Program} {t : TypeId} {n : Nat} {l : List (Nat × Nat × Nat)} {fs : Array Field} (h : P.underlying t = some (.struct fs)) (hu : ftOf P t = some (n, l)) : fs.toList.map (fun f => (f.type, f.offset, P.cellsOf f.type)) = l := by
  unfold ftOf at hu
  rw [h] at hu
  simp only [Option.some.injEq, Prod.mk.injEq] at hu
  exact hu.2
theorem nine {α : Type} {cs : List α} (h : cs.length = 9) : ∃ x0 x1 x2 x3 x4 x5 x6 x7 x8, cs = [x0, x1, x2, x3, x4, x5, x6, x7, x8] := by
  match cs, h with
  | [x0, x1, x2, x3, x4, x5, x6, x7, x8], _ => exact ⟨x0, x1, x2, x3, x4, x5, x6, x7, x8, rfl⟩
theorem Expr_in {cs : List AV} (h : Sh Try.prog 53 cs) : ∃ e : Ex', cs = e.cs ∧ OkE e ∧ e.l.length * 112 ≤ reachBytes := by
  have notS : ∀ {d : TypeDesc}, (∀ fs, d ≠ .struct fs) → ¬ Try.prog.underlying 53 = some d := by
    intro d hd h
    have hft := ft_53
    unfold ftOf at hft
    rw [h] at hft
    cases d <;> simp at hft
    exact hd _ rfl
  have by112 : Try.prog.bytesOf 53 = 112 := by kernel_rfl
  obtain ⟨RB, hRB⟩ : ∃ RB, RB = reachBytes := ⟨_, rfl⟩
  rw [← hRB]
  have key : ∀ {t : Nat} {cs : List AV}, Sh Try.prog t cs → (t = 53 → ∃ e : Ex', cs = e.cs ∧ OkE e ∧ e.l.length * 112 ≤ RB) ∧
      (t = 48 → ∃ l : List Ex', cs = [.sl .no (exprs l)] ∧ (∀ x, x ∈ l → OkE x) ∧ l.length * 112 ≤ RB) := by
    intro t cs h
    induction h with
    | bool h => exact ⟨fun e => by subst e; exact absurd h (notS (by simp)), fun e => by subst e; simp [un_48] at h⟩
    | int h => exact ⟨fun e => by subst e; exact absurd h (notS (by simp)), fun e => by subst e; simp [un_48] at h⟩
    | str h => exact ⟨fun e => by subst e; exact absurd h (notS (by simp)), fun e => by subst e; simp [un_48] at h⟩
    | sl h hb hy hl ih =>
      refine ⟨fun e => by subst e; exact absurd h (notS (by simp)), fun e => ?_⟩
      subst e
      rw [un_48] at h
      cases h
      rw [ag_53] at hb
      cases hb
      obtain ⟨l, e1, e2, e3⟩ := list_in (f := Ex'.av) (g := mkAV true) (Q := OkE) (fun y hy' => by
        obtain ⟨x, h1, h2, _⟩ := (ih y hy').1 rfl
        exact ⟨x, by rw [h1, Ex'.av_eq]; rfl, h2⟩)
      refine ⟨l, by rw [e1]; rfl, e3, ?_⟩
      rw [e2, ← by112, hRB]
      exact hl
    | @struct t fs cs h hl hf ih =>
      refine ⟨fun e => ?_, fun e => by subst e; simp [un_48] at h⟩
      subst e
      have hft := ft_53
      obtain ⟨hl2, hf2⟩ := Sh.struct_of (.struct h hl hf) hft
      have ih2 : ∃ l : List Ex', (cs.drop 8).take 1 = [.sl .no (exprs l)] ∧ (∀ x, x ∈ l → OkE x) ∧ l.length * 112 ≤ RB := by
        have hm : (48, 8, 1) ∈ fs.toList.map fun f => (f.type, f.offset, Try.prog.cellsOf f.type) := by
          rw [ft_fields h hft]; simp
        obtain ⟨f, f1, f2⟩ := List.mem_map.1 hm
        simp only [Prod.mk.injEq] at f2
        obtain ⟨l, q1, q2⟩ := (ih f f1).2 f2.1
        refine ⟨l, ?_, q2⟩
        obtain ⟨_, f3, f4⟩ := f2
        generalize Try.prog.cellsOf f.type = na at q1 f4
        generalize f.offset = nb at q1 f3
        subst f3
        subst f4
        exact q1
      obtain ⟨x0, x1, x2, x3, x4, x5, x6, x7, x8, rfl⟩ := nine hl2
      obtain ⟨op, h0, w0⟩ := (hf2 (3, 0, 1) (by simp)).int_of un_3
      obtain ⟨tab, h1, w1⟩ := (hf2 (9, 1, 1) (by simp)).str_of un_9
      obtain ⟨name, h2, w2⟩ := (hf2 (9, 2, 1) (by simp)).str_of un_9
      obtain ⟨t, h3, w3⟩ := (hf2 (3, 3, 1) (by simp)).int_of un_3
      obtain ⟨c, h4, w4⟩ := (hf2 (3, 4, 1) (by simp)).int_of un_3
      obtain ⟨v, _, h5, w5⟩ := Val_in (hf2 (51, 5, 3) (by simp))
      obtain ⟨l, h6, w6, w7⟩ := ih2
      simp at h0 h1 h2 h3 h4 h5 h6
      obtain ⟨rfl, rfl, rfl⟩ := h5
      subst h0; subst h1; subst h2; subst h3; subst h4; subst h6
      refine ⟨.mk op tab name t c v l, rfl, ⟨?_, w5, w1, w2, w6⟩, w7⟩
      have := reach_lt
      rw [← hRB] at this
      show l.length < _
      omega
  exact (key h).1 rfl
theorem T_count (e : Ex') : OkE e → ∀ n : Int, 1 ≤ n → n ≤ 400 → T Try.prog 73 [e.av, .int .i64 n] (.int .i64 (e.cnt n)) := by
  induction e using Ex'.ind with
  | h a ih =>
  intro ha n h1 h2
  have hal := ha.len
  have hrl := reach_lt
  obtain ⟨t1, t2, t3⟩ : a.tab.size ≤ reachBytes ∧ a.name.size ≤ reachBytes ∧ a.v.s.size ≤ reachBytes := by
    cases ha with | mk hl hv g1 g2 hs => exact ⟨g1, g2, hv.2.2⟩
  have w1 : IntKind.i64.wrap ((a.tab.size : Int) + a.name.size) = a.tab.size + a.name.size := wrap_i64 (by omega) (by omega)
  have w2 : IntKind.i64.wrap ((a.tab.size : Int) + a.name.size + a.v.s.size) = a.tab.size + a.name.size + a.v.s.size := wrap_i64 (by omega) (by omega)
  refine T.intro (TS.body mix Try.func73 (by kernel_rfl) rfl (by kernel_rfl) (by simp) ?_)
  simp [w1, w2]
  rw [Ex'.cnt_eq]
  refine condK_of (fun h => ?_) (fun h => ?_)
  · simp at h
    simp
    intro h'; omega
  · simp at h
    rw [if_neg (by omega)]
    simp
    refine vc_loop (fun i : Nat => a.l.length - i) (fun i e H => ∃ c : Int, e 1 = .int .i64 n ∧ e 2 = .ptr 0 0 ∧ e 5 = .int .i64 c ∧ e 6 = .int .i64 i ∧ i ≤ a.l.length ∧ 1 ≤ c ∧ c ≤ n ∧ Ex'.cntL a.l n 1 = Ex'.cntL (a.l.drop i) n c ∧ H = [.box a.cs]) 0 ?_ ?_
    · exact ⟨1, by simp [h1]⟩
    rintro i e H ⟨c, g1, g2, g5, g6, hi, c1, c2, hc, rfl⟩
    by_cases hlt : i < a.l.length
    · have ed := List.drop_eq_getElem_cons hlt
      by_cases hcn : c < n
      · have hco := (a.l[i]).cnt_ok (n - c) (by omega)
        have hcc := ih a.l[i] (List.getElem_mem hlt) (ha.sub (List.getElem_mem hlt)) (n - c) (by omega) (by omega)
        simp only [Ex'.av_eq] at hcc
        have w3 : IntKind.i64.wrap (n - c) = n - c := wrap_i64 (by omega) (by omega)
        simp [g1, g2, g5, g6, hlt, hcn, w3]
        refine TS.call' hcc (by simp) ?_
        simp [g1, g2, g5, g6, hlt, hcn, w3]
        refine ⟨i + 1, by omega, wrap_next hlt (by omega), by omega, ?_⟩
        rw [wrap_i64 (by omega) (by omega)]
        exact ⟨by omega, by omega, by rw [hc, ed, Ex'.cntL, if_pos hcn]⟩
      · simp [g1, g2, g5, g6, hlt, hcn]
        rw [hc, ed, Ex'.cntL, if_neg hcn]
    · have hil : i = a.l.length := by omega
      subst hil
      simp [g1, g2, g5, g6]
      rw [hc, List.drop_length, Ex'.cntL]
theorem T_muchE (e : Ex') (he : OkE e) : T Try.prog 27 [e.av] (.bool (muchE e)) := by
  have hc := T_count e he 400 (by omega) (by omega)
  simp only [Ex'.av_eq] at hc
  refine T.intro (TS.body mix Try.func27 (by kernel_rfl) rfl (by kernel_rfl) (by simp) ?_)
  simp
  refine TS.call' hc (by simp) ?_
  simp [muchE]


def lvl (op : Int) : Int := if op = 11 then 1 else if op = 10 then 2 else if op = 12 then 3 else if op = 1 ∨ op = 2 ∨ op = 3 ∨ op = 4 ∨ op = 5 ∨ op = 6 ∨ op = 13 ∨ op = 14 then 4 else if op = 7 ∨ op = 8 then 5 else if op = 9 then 6 else 7

section
variable {op t c : Int} {tab name : ByteArray} {v : Val} {l : List Ex'}
@[simp] theorem op_mk : (Ex'.mk op tab name t c v l).op = op := rfl
@[simp] theorem tab_mk : (Ex'.mk op tab name t c v l).tab = tab := rfl
@[simp] theorem name_mk : (Ex'.mk op tab name t c v l).name = name := rfl
@[simp] theorem t_mk : (Ex'.mk op tab name t c v l).t = t := rfl
@[simp] theorem c_mk : (Ex'.mk op tab name t c v l).c = c := rfl
@[simp] theorem v_mk : (Ex'.mk op tab name t c v l).v = v := rfl
@[simp] theorem l_mk : (Ex'.mk op tab name t c v l).l = l := rfl
end
instance : Selfs Ex'.av := ⟨fun a x h => by
  rw [Ex'.av_eq] at h
  simp only [cells_agg, List.mem_cons, List.not_mem_nil, or_false] at h
  rcases h with rfl | rfl | rfl | rfl | rfl | rfl | rfl | rfl | rfl <;> simp⟩
theorem FrzC.slE {H : List HO} {own : Own} : FrzC H [.sl own []] [.sl .no []] := .cons (.sl .nil rfl fun n h => h) .nil
def zV : Val := ⟨0, 0, ByteArray.empty⟩
@[simp] theorem zV_k : zV.k = 0 := rfl
@[simp] theorem zV_i : zV.i = 0 := rfl
@[simp] theorem zV_s : zV.s = ByteArray.empty := rfl


theorem T_cloneE (l : List Ex') (hl : l.length * 112 ≤ reachBytes) : T Try.prog 92 [.sl .no (exprs l)] (.sl .no (exprs l)) := by
  refine T.introF (TS.body mix Try.func92 (by kernel_rfl) rfl (by kernel_rfl) (by simp) ?_)
  simp
  refine ⟨by simp [isSlT, un_48], ?_⟩
  by_cases h : l = []
  · subst h
    simp
    exact ⟨.sl .nil rfl fun n h => h, .sl .nil rfl fun n h => h⟩
  · have hrl := reach_lt
    simp [h]
    exact ⟨by omega, Frz.slN⟩
theorem T_ofE (n : Int) (l : List Ex') (hl : l.length * 112 ≤ reachBytes) : T Try.prog 87 [.int .i64 n, .sl .no (exprs l)] (Ex'.mk n ByteArray.empty ByteArray.empty 0 0 zV l).av := by
  refine T.introF (TS.body mix Try.func87 (by kernel_rfl) rfl (by kernel_rfl) (by simp) ?_)
  simp
  refine TS.call' (T_cloneE l hl) (by simp) ?_
  simp
  refine .agg ?_
  repeat (refine .cons (.cl (by simp)) ?_)
  exact .nil
theorem exprs_len (l : List Ex') : ((exprs l).flatMap AV.cells).length = l.length * 9 := by
  induction l with
  | nil => rfl
  | cons a l ih =>
    rw [show exprs (a :: l) = a.av :: exprs l from rfl, List.flatMap_cons, List.length_append, ih, Ex'.av_eq, cells_agg]
    simp only [List.length_cons, List.length_nil]
    omega
theorem exprs_sum (l : List Ex') : ((exprs l).map fun a => a.cells.length).sum = l.length * 9 := by rw [← exprs_len, List.length_flatMap]
def ColA (J : List HO) (x : AV) (l : List Ex') : Prop := (l = [] ∧ x = .sl .exact []) ∨ ∃ k, x = .mv (k + 3) l.length 9 0 l.length ∧ J[k]? = some (.row l.length 9 ((exprs l).flatMap AV.cells))
theorem ColA.app {J L : List HO} {x : AV} {l : List Ex'} (h : ColA J x l) : ColA (J ++ L) x l := by
  rcases h with h | ⟨k, h1, h2⟩
  · exact .inl h
  · exact .inr ⟨k, h1, by rw [List.getElem?_append_left (List.getElem?_eq_some_iff.1 h2).1]; exact h2⟩
abbrev colsF : AV := .fn (.func 109) [] [.ptr 1 0, .ptr 2 0]
theorem S_c1 (e : Ex') : OkE e → ∀ (E0 : HO) (x : AV) (l : List Ex') (J : List HO), ColA J x l → l.length + e.nodes ≤ 1000000 →
    TS Try.prog 109 [e.av, .ptr 1 0, .ptr 2 0] (E0 :: .box [x] :: .box [colsF] :: J) (fun r H' => ∃ x' J', ColA J' x' (l ++ e.cols) ∧ H' = E0 :: .box [x'] :: .box [colsF] :: J') := by
  induction e using Ex'.ind with
  | h a ih =>
  intro ha E0 x l J hx hn
  have hal := ha.len
  rw [Ex'.nodes_eq] at hn
  refine (TS.bodyM [13, 300002, 1020400, 1020401, 1020402, 1020403, 1020504, 1020600, 1020601, 1020602, 1020603, 1020604, 1020605, 1020700, 1020701, 1020702, 1020703, 1020704] mix Try.func109 (by kernel_rfl) rfl (by kernel_rfl) (by simp) ?_)
  simp
  refine condK_of (fun h => ?_) (fun h => ?_)
  · simp at h
    rw [Ex'.cols_eq, if_pos h]
    rcases hx with ⟨rfl, rfl⟩ | ⟨k, rfl, hk⟩
    · simp
      exact .inr ⟨J.length + 1, rfl, by simp⟩
    · have hkl := (List.getElem?_eq_some_iff.1 hk).1
      have hk' : (J ++ [HO.box a.cs])[k]? = some (.row l.length 9 ((exprs l).flatMap AV.cells)) := by rw [List.getElem?_append_left hkl]; exact hk
      have hset : ∀ X, (J.set k X ++ [HO.box a.cs])[k]? = some X := fun X => by rw [List.getElem?_append_left (by simpa using hkl), List.getElem?_set_self hkl]
      simp [hk', hkl]
      refine ⟨⟨by omega, by omega⟩, by omega, ?_⟩
      simp [hset, hkl, exprs_sum]
      refine .inr ⟨k, by simp, ?_⟩
      rw [hset]
      have e1 := exprs_len l
      rw [show exprs (l ++ [a]) = exprs l ++ [a.av] from (by simp [avs]), List.flatMap_append, List.drop_of_length_le (by rw [List.length_append, e1]; simp)]
      simp
  · simp at h
    rw [Ex'.cols_eq, if_neg h]
    simp
    refine vc_loop (fun i : Nat => a.l.length - i) (fun i e H => e 2 = .ptr 2 0 ∧ e 16 = .sl .no (exprs a.l) ∧ e 17 = .int .i64 a.l.length ∧ e 18 = .int .i64 i ∧ i ≤ a.l.length ∧ ∃ x J, ColA J x (l ++ Ex'.colsL (a.l.take i)) ∧ H = E0 :: .box [x] :: .box [colsF] :: J) 0 ?_ ?_
    · simp [Ex'.colsL]
      exact hx.app
    clear hx
    rintro i e H ⟨h2, h16, h17, h18, hi, x', J', hc, rfl⟩
    by_cases hlt : i < a.l.length
    · have hx := List.getElem_mem hlt
      have hnx := Ex'.nodesL_take hlt
      have hnt := Ex'.nodesL_le (l := a.l) (i + 1)
      have hcl := Ex'.colsL_len (a.l.take i)
      have hns := Ex'.colsL_take hlt
      have hcc := ih a.l[i] hx (ha.sub hx) E0 x' (l ++ Ex'.colsL (a.l.take i)) (J' ++ [.box (a.l[i]).cs]) hc.app (by rw [List.length_append]; omega)
      simp only [Ex'.av_eq] at hcc
      simp [h2, h16, h17, h18, hlt]
      refine hcc.mono ?_
      rintro r H' ⟨x2, J2, hc2, rfl⟩
      simp [h2, h16, h17, h18, hlt]
      exact ⟨i + 1, by omega, wrap_next hlt (by omega), by omega, by rw [hns, ← List.append_assoc]; exact hc2⟩
    · have hil : i = a.l.length := by omega
      subst hil
      simp [h2, h16, h17, h18]
      rw [List.take_length] at hc
      exact hc
theorem T_cols (e : Ex') (he : OkE e) (hn : e.nodes ≤ 1000000) : T Try.prog 74 [e.av] (.sl .no (exprs e.cols)) := by
  refine T.introF (TS.body mix Try.func74 (by kernel_rfl) rfl (by kernel_rfl) (by simp) ?_)
  have hc := S_c1 e he (.box e.cs) (.sl .exact []) [] [] (.inl ⟨rfl, rfl⟩) (by simpa using hn)
  simp only [Ex'.av_eq] at hc
  simp
  refine hc.mono ?_
  rintro r H' ⟨x, J, hx, rfl⟩
  simp
  rcases hx with ⟨h1, rfl⟩ | ⟨k, rfl, hk⟩
  · simp at h1
    rw [h1]
    exact Frz.slN (f := Ex'.av) (l := [])
  · refine Frz.mvA ?_ rfl
    simpa using hk
def liv1 : Ex' := .mk 15 ⟨#[97]⟩ ⟨#[120]⟩ 0 0 zV []
def liv2 : Ex' := .mk 16 ByteArray.empty ByteArray.empty 0 0 ⟨1, 1, ByteArray.empty⟩ []
def liv3 : Ex' := .mk 7 ByteArray.empty ByteArray.empty 0 0 zV [liv1, liv2]


end Go.Proofs.Ytcjfjoilgnlemaa.PL
