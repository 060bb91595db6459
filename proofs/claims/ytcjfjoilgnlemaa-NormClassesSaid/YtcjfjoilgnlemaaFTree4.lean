/- Queries: alike or not. -/
import Derived.Test.YtcjfjoilgnlemaaFTree3
namespace Go.Proofs.Ytcjfjoilgnlemaa.PL
open Go.Proofs
set_option linter.unusedVariables false
set_option linter.unusedSimpArgs false
structure Frm where
  kind : Int
  tab : ByteArray
  al : ByteArray
  on : Ex'
abbrev Frm.cs (f : Frm) : List AV := [.int .i64 f.kind, .str f.tab, .str f.al, .int .i64 f.on.op, .str f.on.tab, .str f.on.name, .int .i64 f.on.t, .int .i64 f.on.c, .int .i64 f.on.v.k, .int .i64 f.on.v.i, .str f.on.v.s, .sl .no (exprs f.on.l)]
abbrev Frm.av (f : Frm) : AV := .agg f.cs
instance : Sized Frm.av 12 := ⟨fun _ => rfl⟩
instance : Plain Frm.av := ⟨fun f => by simp [AV.pl, AV.pls]⟩
abbrev frms (l : List Frm) : List AV := avs Frm.av l
structure Qry where
  sel : List Ex'
  frm : List Frm
  whr : Ex'
  grp : List Ex'
abbrev Qry.cs (q : Qry) : List AV := [.sl .no (exprs q.sel), .sl .no (frms q.frm), .int .i64 q.whr.op, .str q.whr.tab, .str q.whr.name, .int .i64 q.whr.t, .int .i64 q.whr.c, .int .i64 q.whr.v.k, .int .i64 q.whr.v.i, .str q.whr.v.s, .sl .no (exprs q.whr.l), .sl .no (exprs q.grp)]
abbrev Qry.av (q : Qry) : AV := .agg q.cs
instance : Plain Qry.av := ⟨fun f => by simp [AV.pl, AV.pls]⟩
structure OkL (l : List Ex') : Prop where
  ok : ∀ x, x ∈ l → OkE x
  len : l.length * 112 ≤ reachBytes
structure OkF (f : Frm) : Prop where
  tab : f.tab.size ≤ reachBytes
  al : f.al.size ≤ reachBytes
  on : OkE f.on
structure OkQ (q : Qry) : Prop where
  sel : OkL q.sel
  frm : ∀ f, f ∈ q.frm → OkF f
  len : q.frm.length < 4611686018427387904
  whr : OkE q.whr
  grp : OkL q.grp
theorem OkL.lt {l : List Ex'} (h : OkL l) : l.length < 4611686018427387904 := by have := h.len; have := reach_lt; omega
theorem exprs_in {cs : List AV} (h : Sh Try.prog 48 cs) : ∃ l : List Ex', cs = [.sl .no (exprs l)] ∧ OkL l := by
  obtain ⟨ys, rfl, hy, b⟩ := h.sl_of un_48 ag_53
  have by112 : Try.prog.bytesOf 53 = 112 := by kernel_rfl
  obtain ⟨RB, hRB⟩ : ∃ RB, RB = reachBytes := ⟨_, rfl⟩
  obtain ⟨l, e1, e2, e3⟩ := list_in (f := Ex'.av) (g := mkAV true) (Q := OkE) (fun y hy' => by
    obtain ⟨x, h1, h2, _⟩ := Expr_in (hy y hy')
    exact ⟨x, by rw [h1, Ex'.av_eq]; rfl, h2⟩)
  refine ⟨l, by rw [e1]; rfl, e3, ?_⟩
  rw [e2, ← by112]
  exact b
theorem twelve {α : Type} {cs : List α} (h : cs.length = 12) : ∃ x0 x1 x2 x3 x4 x5 x6 x7 x8 x9 x10 x11, cs = [x0, x1, x2, x3, x4, x5, x6, x7, x8, x9, x10, x11] := by
  match cs, h with
  | [x0, x1, x2, x3, x4, x5, x6, x7, x8, x9, x10, x11], _ => exact ⟨x0, x1, x2, x3, x4, x5, x6, x7, x8, x9, x10, x11, rfl⟩
theorem Frm_in {cs : List AV} (h : Sh Try.prog 113 cs) : ∃ f : Frm, cs = f.cs ∧ OkF f := by
  obtain ⟨hl, hf⟩ := h.struct_of ft_113
  obtain ⟨x0, x1, x2, x3, x4, x5, x6, x7, x8, x9, x10, x11, rfl⟩ := twelve hl
  obtain ⟨k, h0, w0⟩ := (hf (3, 0, 1) (by simp)).int_of un_3
  obtain ⟨tab, h1, w1⟩ := (hf (9, 1, 1) (by simp)).str_of un_9
  obtain ⟨al, h2, w2⟩ := (hf (9, 2, 1) (by simp)).str_of un_9
  obtain ⟨on, h3, w3, _⟩ := Expr_in (hf (53, 3, 9) (by simp))
  simp at h0 h1 h2 h3
  obtain ⟨rfl, rfl, rfl, rfl, rfl, rfl, rfl, rfl, rfl⟩ := h3
  subst h0; subst h1; subst h2
  exact ⟨⟨k, tab, al, on⟩, rfl, w1, w2, w3⟩
theorem Qry_in {cs : List AV} (h : Sh Try.prog 55 cs) : ∃ q : Qry, cs = q.cs ∧ OkQ q := by
  obtain ⟨hl, hf⟩ := h.struct_of ft_55
  obtain ⟨x0, x1, x2, x3, x4, x5, x6, x7, x8, x9, x10, x11, rfl⟩ := twelve hl
  obtain ⟨sel, h0, w0⟩ := exprs_in (hf (48, 0, 1) (by simp))
  obtain ⟨ys, h1, hy, b⟩ := (hf (49, 1, 1) (by simp)).sl_of un_49 ag_113
  obtain ⟨frm, e1, e2, e3⟩ := list_in (f := Frm.av) (g := mkAV true) (Q := OkF) (fun y hy' => by
    obtain ⟨x, h1, h2⟩ := Frm_in (hy y hy')
    exact ⟨x, by rw [h1]; rfl, h2⟩)
  rw [e1] at h1
  have by1 : Try.prog.bytesOf 113 ≠ 0 := by decide +kernel
  have hlen : frm.length < 4611686018427387904 := by
    have h1 : frm.length * 1 ≤ frm.length * Try.prog.bytesOf 113 := Nat.mul_le_mul_left _ (by omega)
    rw [← e2] at b
    have := reach_lt
    omega
  obtain ⟨whr, h2, w2, _⟩ := Expr_in (hf (53, 2, 9) (by simp))
  obtain ⟨grp, h3, w3⟩ := exprs_in (hf (48, 11, 1) (by simp))
  simp at h0 h1 h2 h3
  obtain ⟨rfl, rfl, rfl, rfl, rfl, rfl, rfl, rfl, rfl⟩ := h2
  subst h0; subst h1; subst h3
  exact ⟨⟨sel, frm, whr, grp⟩, rfl, w0, e3, hlen, w2, w3⟩
def muchF (f : Frm) : Bool := muchE f.on || decide (200 < (f.tab.size : Int) + f.al.size)
def muchQ (q : Qry) : Bool := decide (20 < q.sel.length) || decide (12 < q.frm.length) || decide (12 < q.grp.length) || muchE q.whr || q.sel.any muchE || q.grp.any muchE || q.frm.any muchF
theorem any_take {α : Type} {q : α → Bool} {l : List α} {i : Nat} (h : i < l.length) (hq : q l[i] = true) : l.any q = true := List.any_eq_true.2 ⟨_, List.getElem_mem h, hq⟩
theorem any_next {α : Type} {q : α → Bool} {l : List α} {i : Nat} (h : i < l.length) (h0 : (l.take i).any q = false) (hq : q l[i] = false) : (l.take (i + 1)).any q = false := by rw [take_next h, List.any_append, h0]; simp [hq]
theorem T_muchQ (q : Qry) (hq : OkQ q) : T Try.prog 26 [q.av] (.bool (muchQ q)) := by
  have hw := T_muchE q.whr hq.whr
  simp only [Ex'.av_eq] at hw
  have l1 := hq.sel.lt
  have l2 := hq.grp.lt
  have l3 := hq.len
  obtain ⟨b1, c1⟩ : ∃ b1, decide (20 < q.sel.length) = b1 := ⟨_, rfl⟩
  obtain ⟨b2, c2⟩ : ∃ b1, decide (12 < q.frm.length) = b1 := ⟨_, rfl⟩
  obtain ⟨b3, c3⟩ : ∃ b1, decide (12 < q.grp.length) = b1 := ⟨_, rfl⟩
  have c1' : decide ((20 : Int) < q.sel.length) = b1 := by rw [← c1]; congr 1; simp; omega
  have c2' : decide ((12 : Int) < q.frm.length) = b2 := by rw [← c2]; congr 1; simp; omega
  have c3' : decide ((12 : Int) < q.grp.length) = b3 := by rw [← c3]; congr 1; simp; omega
  have early : ∀ f : Bool, (b1 || b2 || b3 || muchE q.whr) = true → T Try.prog 26 [q.av] (.bool true) := by
    intro f hb
    refine T.intro (TS.body mix Try.func26 (by kernel_rfl) rfl (by kernel_rfl) (by simp) ?_)
    by_cases hz : b1 = false ∧ b2 = false ∧ b3 = false
    · obtain ⟨rfl, rfl, rfl⟩ := hz
      simp at hb
      rw [hb] at hw
      simp [c1, c2, c3, c1', c2', c3']
      refine GTK.callW (fun _ => ⟨hw, Dws.self (by simp)⟩) ?_
      simp
    · cases b1 <;> cases b2 <;> cases b3 <;> first
        | exact absurd ⟨rfl, rfl, rfl⟩ hz
        | (simp [c1, c2, c3, c1', c2', c3']; refine GTK.callW (fun h => nomatch h) (ys := []) (r := .bool true) ?_; simp; done)
  unfold muchQ
  rw [c1, c2, c3]
  cases hb : (b1 || b2 || b3 || muchE q.whr) with
  | true => simp; exact early true hb
  | false =>
  simp at hb
  obtain ⟨⟨⟨rfl, rfl⟩, rfl⟩, hm⟩ := hb
  rw [hm] at hw
  clear early
  obtain ⟨R, hR⟩ : ∃ R, R = (q.sel.any muchE || q.grp.any muchE || q.frm.any muchF) := ⟨_, rfl⟩
  have goal : (false || q.sel.any muchE || q.grp.any muchE || q.frm.any muchF) = R := by rw [hR]; simp
  rw [goal]
  clear goal
  refine T.intro (TS.body mix Try.func26 (by kernel_rfl) rfl (by kernel_rfl) (by simp) ?_)
  simp [c1, c2, c3, c1', c2', c3']
  refine GTK.callW (fun _ => ⟨hw, Dws.self (by simp)⟩) ?_
  simp
  refine vc_loop (fun i : Nat => q.sel.length - i) (fun i e H => e 1 = .ptr 0 0 ∧ e 3 = .int .i64 i ∧ i ≤ q.sel.length ∧ (q.sel.take i).any muchE = false ∧ H = [.box q.cs]) 0 ?_ ?_
  · simp
  rintro i e H ⟨h1, h3, hi, ht, rfl⟩
  by_cases hlt : i < q.sel.length
  · have hc := T_muchE q.sel[i] (hq.sel.ok _ (List.getElem_mem hlt))
    simp only [Ex'.av_eq] at hc
    simp [h1, h3, hlt]
    refine TS.callW hc (Dws.self (by simp)) ?_
    simp
    refine condK_of (fun h5 => ?_) (fun h5 => ?_)
    · simp
      rw [hR, any_take hlt h5]; simp
    · simp [h1, h3, hlt]
      exact ⟨i + 1, by omega, wrap_next hlt (by omega), by omega, by simpa using any_next hlt ht h5⟩
  have hil : i = q.sel.length := by omega
  subst hil
  rw [List.take_length] at ht
  rw [ht] at hR
  simp [h1, h3]
  refine vc_loop (fun i : Nat => q.grp.length - i) (fun i e H => e 1 = .ptr 0 0 ∧ e 4 = .int .i64 i ∧ i ≤ q.grp.length ∧ (q.grp.take i).any muchE = false ∧ H = [.box q.cs]) 0 ?_ ?_
  · simp [h1]
  clear h1 h3 ht e
  rintro i e H ⟨h1, h3, hi, ht, rfl⟩
  by_cases hlt : i < q.grp.length
  · have hc := T_muchE q.grp[i] (hq.grp.ok _ (List.getElem_mem hlt))
    simp only [Ex'.av_eq] at hc
    simp [h1, h3, hlt]
    refine TS.callW hc (Dws.self (by simp)) ?_
    simp
    refine condK_of (fun h5 => ?_) (fun h5 => ?_)
    · simp
      rw [hR, any_take hlt h5]; simp
    · simp [h1, h3, hlt]
      exact ⟨i + 1, by omega, wrap_next hlt (by omega), by omega, by simpa using any_next hlt ht h5⟩
  have hil : i = q.grp.length := by omega
  subst hil
  rw [List.take_length] at ht
  rw [ht] at hR
  simp [h1, h3]
  refine vc_loop (fun i : Nat => q.frm.length - i) (fun i e H => e 1 = .ptr 0 0 ∧ e 5 = .int .i64 i ∧ i ≤ q.frm.length ∧ (q.frm.take i).any muchF = false ∧ H = [.box q.cs]) 0 ?_ ?_
  · simp [h1]
  clear h1 h3 ht e
  rintro i e H ⟨h1, h3, hi, ht, rfl⟩
  by_cases hlt : i < q.frm.length
  · obtain ⟨w1, w2, w3⟩ := hq.frm _ (List.getElem_mem hlt)
    have hc := T_muchE (q.frm[i]).on w3
    have hrl := reach_lt
    have ww : IntKind.i64.wrap (((q.frm[i]).tab.size : Int) + (q.frm[i]).al.size) = (q.frm[i]).tab.size + (q.frm[i]).al.size := wrap_i64 (by omega) (by omega)
    simp only [Ex'.av_eq] at hc
    simp [h1, h3, hlt]
    refine TDK.callW hc (Dws.self (by simp)) ?_
    cases hme : muchE (q.frm[i]).on with
    | true =>
      simp [h1, h3, hlt]
      rw [hR, any_take hlt (q := muchF) (by simp [muchF, hme])]; simp
    | false =>
      simp [h1, h3, hlt, ww]
      refine condK_of (fun h5 => ?_) (fun h5 => ?_)
      · simp at h5
        simp
        rw [hR, any_take hlt (q := muchF) (by simp [muchF]; omega)]; simp
      · simp at h5
        simp [h1, h3, hlt]
        refine ⟨i + 1, by omega, wrap_next hlt (by omega), by omega, ?_⟩
        simpa using any_next hlt ht (q := muchF) (by simp [muchF, hme]; omega)
  have hil : i = q.frm.length := by omega
  subst hil
  rw [List.take_length] at ht
  rw [ht] at hR
  simp [h1, h3]
  simpa using hR
theorem Frm.ext' {a b : Frm} (h1 : a.kind = b.kind) (h2 : a.tab = b.tab) (h3 : a.al = b.al) (h4 : a.on = b.on) : a = b := by cases a; cases b; simp_all
theorem Qry.ext' {a b : Qry} (h1 : a.sel = b.sel) (h2 : a.frm = b.frm) (h3 : a.whr = b.whr) (h4 : a.grp = b.grp) : a = b := by cases a; cases b; simp_all
theorem sameF (f g : Frm) : sameE f g = (decide (f.kind = g.kind) && decide (f.tab = g.tab) && decide (f.al = g.al) && sameE f.on g.on) := by
  rw [Bool.eq_iff_iff, sameE_iff]
  simp only [Bool.and_eq_true, decide_eq_true_eq, sameE_iff]
  exact ⟨fun e => by subst e; simp, fun ⟨⟨⟨e1, e2⟩, e3⟩, e4⟩ => Frm.ext' e1 e2 e3 e4⟩


theorem sameQ (p q : Qry) : sameE p q = (sameE p.sel q.sel && sameE p.frm q.frm && sameE p.whr q.whr && sameE p.grp q.grp) := by
  rw [Bool.eq_iff_iff, sameE_iff]
  simp only [Bool.and_eq_true, sameE_iff]
  exact ⟨fun e => by subst e; simp, fun ⟨⟨⟨e1, e2⟩, e3⟩, e4⟩ => Qry.ext' e1 e2 e3 e4⟩




end Go.Proofs.Ytcjfjoilgnlemaa.PL
