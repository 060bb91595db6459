/- Which pipes may go on. -/
import Derived.Test.YtgmhmdmfnmlhmabFLib
namespace Go.Proofs.Ytgmhmdmfnmlhmab.PL
open Go.Proofs
set_option linter.unusedVariables false
set_option linter.unusedSimpArgs false
structure Pipe where
  s : PSl
  f : PSl
  needs : List Int
abbrev Pipe.cs (p : Pipe) : List AV := [.sl .no p.s.xs, .sl .no p.f.xs, slA (AV.int .i64) p.needs]
@[simp] abbrev Pipe.av (p : Pipe) : AV := .agg p.cs
instance : Sized Pipe.av 3 := ⟨fun _ => rfl⟩
instance : Plain Pipe.av := ⟨fun p => by simp [AV.pl, AV.pls]⟩
structure Plan where
  o : PSl
  f : PSl
  pipes : List Pipe
  a : PSl
  b : PSl
  c : PSl
abbrev Plan.cs (p : Plan) : List AV := [.sl .no p.o.xs, .sl .no p.f.xs, .sl .no (avs Pipe.av p.pipes), .sl .no p.a.xs, .sl .no p.b.xs, .sl .no p.c.xs]
abbrev Plan.av (p : Plan) : AV := .agg p.cs
def Plan.ns (p : Plan) : List (List Int) := p.pipes.map (·.needs)
theorem Plan.ns_len (p : Plan) : p.ns.length = p.pipes.length := by simp [Plan.ns]
theorem Plan.ns_get (p : Plan) {t : Nat} (h : t < p.pipes.length) : p.ns.getD t [] = p.pipes[t].needs := by simp [Plan.ns, h]
abbrev bools' (l : List Bool) : List AV := avs AV.bool l
def isD (d : List Bool) (t : Int) : Bool := decide (0 ≤ t) && decide (t < d.length) && d.getD t.toNat false
theorem isD_nat {d : List Bool} {t : Nat} (h : t < d.length) : isD d t = d[t] := by simp [isD, h]
theorem T_is33 (d : List Bool) (t : Int) (hl : d.length < 4611686018427387904) : T Try.prog 91 [.sl .no (bools' d), .int .i64 t] (.bool (isD d t)) := by
  refine T.intro (TS.body mix Try.func91 (by kernel_rfl) rfl (by kernel_rfl) (by simp) ?_)
  by_cases h : 0 ≤ t ∧ t < d.length
  · obtain ⟨k, rfl⟩ : ∃ k : Nat, t = k := ⟨t.toNat, by omega⟩
    have hk : k < d.length := by omega
    simp [hk, isD_nat hk]
  · by_cases h0 : 0 ≤ t
    · have h1 : (decide (t < (d.length : Int))) = false := by simp; omega
      simp [h0, h1, isD, -ifAV]
    · have h1 : decide (0 ≤ t) = false := by simp; omega
      simp [h1, isD, -ifAV]
/-- may it go on, by the needs -/
def readyN (ns : List (List Int)) (q : Int → Bool) (t : Int) : Bool := decide (0 ≤ t) && decide (t < ns.length) && !q t && (ns.getD t.toNat []).all fun n => decide (0 ≤ n) && decide (n < ns.length) && q n
set_option maxRecDepth 4000 in
theorem T_rready33 (p : Plan) (d : List Bool) (t : Int) (hl : d.length < 4611686018427387904) (hp : p.pipes.length < 4611686018427387904) (hn : ∀ x, x ∈ p.pipes → x.needs.length < 4611686018427387904) :
    T Try.prog 43 [p.av, .sl .no (bools' d), .int .i64 t] (.bool (readyN p.ns (isD d) t)) := by
  refine T.intro (TS.body mix Try.func43 (by kernel_rfl) rfl (by kernel_rfl) (by simp) ?_)
  simp
  refine ⟨by omega, GTK.call (fun _ => ⟨T_is33 d t hl, by simp⟩) ?_⟩
  simp
  refine condK_of (fun h => ?_) (fun h => ?_)
  · simp at h
    simp
    unfold readyN
    rw [p.ns_len]
    simp
    intro a b c
    rcases h with h | h
    · omega
    · rw [c] at h; cases h
  simp at h
  obtain ⟨⟨h1, h2⟩, h3⟩ := h
  obtain ⟨k, rfl⟩ : ∃ k : Nat, t = k := ⟨t.toNat, by omega⟩
  have hk : k < p.pipes.length := by omega
  have hnk := hn _ (List.getElem_mem hk)
  have hr : readyN p.ns (isD d) k = p.pipes[k].needs.all fun n => decide (0 ≤ n) && decide (n < p.pipes.length) && isD d n := by
    unfold readyN
    rw [p.ns_len, show (k : Int).toNat = k from rfl, p.ns_get hk, h3]
    simp [hk]
  rw [hr]
  simp
  generalize hN : p.pipes[k].needs = N at *
  refine vc_loop (fun i : Nat => N.length - i) (fun i e H => e 1 = .sl .no (bools' d) ∧ e 2 = .int .i64 k ∧ e 3 = .ptr 0 0 ∧ e 7 = .int .i64 i ∧ i ≤ N.length ∧ (∀ j (h : j < N.length), j < i → (decide (0 ≤ N[j]) && decide (N[j] < p.pipes.length) && isD d N[j]) = true) ∧ H = [.box p.cs]) 0 ?_ ?_
  · simp
  rintro i e H ⟨e1, e2, e3, e7, hi, hall, rfl⟩
  by_cases hlt : i < N.length
  · have ew := wrap_next hlt (by omega)
    have hD : isD d N[i] = true → 0 ≤ N[i] := by unfold isD; simp; intro x _ _; exact x
    simp [e1, e2, e3, e7, hk, hN, hlt]
    refine GTK.call (fun _ => ⟨T_is33 d N[i] hl, by simp⟩) ?_
    simp [e1, e2, e3, e7, hk, hN, hlt]
    refine condK_of (fun q => ?_) (fun q => ?_)
    · simp at q
      simp
      refine ⟨N[i], List.getElem_mem hlt, fun a b => ?_⟩
      rcases q with q | q
      · omega
      · exact q
    · simp at q
      simp [e1, e2, e3, e7, hk, hN, hlt]
      refine ⟨i + 1, by omega, ew, by omega, fun j h hj => ?_⟩
      rcases Nat.lt_or_ge j i with h2 | h2
      · simpa using hall j h h2
      · have : j = i := by omega
        subst this
        exact ⟨⟨hD q.2, q.1⟩, q.2⟩
  · have : i = N.length := by omega
    subst this
    simp [e1, e2, e3, e7, hk, hN]
    intro x hx
    obtain ⟨j, hj, rfl⟩ := List.getElem_of_mem hx
    simpa [and_assoc] using hall j hj hj
def PlanIn (p : Plan) : Prop := p.pipes.length < 4611686018427387904 ∧ ∀ x, x ∈ p.pipes → x.needs.length < 4611686018427387904
/-- which may go on -/
def readyL (ns : List (List Int)) (q : Int → Bool) (k : Nat) : List Nat := (List.range k).filter fun t => readyN ns q t
theorem readyL_succ {ns : List (List Int)} {q : Int → Bool} {k : Nat} : readyL ns q (k + 1) = if readyN ns q k = true then readyL ns q k ++ [k] else readyL ns q k := by
  unfold readyL
  rw [List.range_succ, List.filter_append]
  by_cases h : readyN ns q k = true <;> simp [h]
theorem readyL_len {ns : List (List Int)} {q : Int → Bool} {k : Nat} : (readyL ns q k).length ≤ k := Nat.le_trans (List.length_filter_le _ _) (by simp)
abbrev natA (k : Nat) : AV := .int .i64 (k : Int)
instance : Sized natA 1 := ⟨fun _ => rfl⟩
instance : Plain natA := ⟨fun _ => rfl⟩
instance : Selfs natA := ⟨fun a x h => by simp [AV.cells] at h; subst h; simp⟩
abbrev nats' (l : List Nat) : List AV := avs natA l
@[simp] theorem nats_flat {l : List Nat} : (avs natA l).flatMap AV.cells = avs natA l := avs_flat1 fun _ => rfl
set_option maxRecDepth 4000 in
theorem S_rall33 (H : List HO) (x : AV) (p : Plan) (d : List Bool) (hl : d.length < 4611686018427387904) (hp : PlanIn p) (hs : p.pipes.length ≤ 1000) (hx : ∀ L, Frz (H ++ L) x (.sl .no (bools' d))) :
    TS Try.prog 46 [p.av, x] H (pt (slA natA (readyL p.ns (isD d) p.pipes.length)) H) := by
  refine TS.dropF ?_ (Nat.le_refl _) fun _ h => .inl h
  refine TS.body mix Try.func46 (by kernel_rfl) rfl (by kernel_rfl) (by simp) ?_
  simp
  refine vc_loop (fun i : Nat => p.pipes.length - i) (fun i e H' => ∃ J : List HO, e 1 = x ∧ e 2 = .ptr H.length 0 ∧ e 6 = .int .i64 i ∧ i ≤ p.pipes.length ∧ GrowB 1 (H ++ [.box p.cs]) J (e 5) (nats' (readyL p.ns (isD d) i)) ∧ H' = (H ++ [.box p.cs]) ++ J) 0 ?_ ?_
  · exact ⟨[], by simp [GrowB, readyL]⟩
  rintro i e H' ⟨J, e1, e2, e6, hi, hg, rfl⟩
  by_cases hlt : i < p.pipes.length
  · have ew := wrap_next hlt (by omega)
    have hr := T_rready33 p d i hl hp.1 hp.2
    have hs := readyL_succ (ns := p.ns) (q := isD d) (k := i)
    have hle := readyL_len (ns := p.ns) (q := isD d) (k := i)
    have hx' := hx (.box p.cs :: J)
    generalize readyL p.ns (isD d) i = L at *
    simp [e1, e2, e6, hlt]
    refine TS.callF hr (.cons (Frz.of_cl2 (by simp)) (.cons hx' (.cons (Frz.of_cl2 (by simp)) .nil))) rfl ?_
    simp [e1, e2, e6, hlt]
    refine condK_of (fun q => ?_) (fun q => ?_)
    · rw [if_pos q] at hs
      rcases hg with ⟨ge, hg⟩ | ⟨t, hg, ht⟩
      · rw [avs_eq_nil] at ge
        simp [e1, e2, e6, hlt, hg]
        refine ⟨i + 1, by omega, ew, by omega, ?_⟩
        rw [hs]
        exact GrowB.first (f := natA) ge (by simp; omega)
      · have ht' : J[t]? = some (.spare L.length 1) := by simpa using ht
        have hat : (H ++ .box p.cs :: J)[H.length + 1 + t]? = some (.spare L.length 1) := by
          rw [show H ++ HO.box p.cs :: J = (H ++ [.box p.cs]) ++ J by simp, show H.length + 1 + t = (H ++ [HO.box p.cs]).length + t by simp, app_atn, ht']
        have hst : ∀ z, (H ++ .box p.cs :: J).set (H.length + 1 + t) z = H ++ .box p.cs :: J.set t z := fun z => by
          rw [show H ++ HO.box p.cs :: J = (H ++ [.box p.cs]) ++ J by simp, show H.length + 1 + t = (H ++ [HO.box p.cs]).length + t by simp, app_setn]; simp
        simp [e1, e2, e6, hlt, hg, hat, hst]
        refine ⟨by omega, i + 1, by omega, ew, by omega, ?_⟩
        rw [hs]
        have := GrowB.more (f := natA) (a := i) (A := H ++ [HO.box p.cs]) ht rfl
        simpa using this
    · rw [if_neg (by simp [q])] at hs
      simp [e1, e2, e6, hlt]
      exact ⟨i + 1, by omega, ew, by omega, by rw [hs]; exact hg⟩
  · have : i = p.pipes.length := by omega
    subst this
    obtain ⟨own, hg⟩ := hg.own
    simp [e1, e2, e6, hg]
    exact Frz.slN
theorem T_rall33 (p : Plan) (d : List Bool) (hl : d.length < 4611686018427387904) (hp : PlanIn p) (hs : p.pipes.length ≤ 1000) :
    T Try.prog 46 [p.av, .sl .no (bools' d)] (slA natA (readyL p.ns (isD d) p.pipes.length)) :=
  T.intro ((S_rall33 [] (.sl .no (bools' d)) p d hl hp hs fun L => Frz.of_cl2 (by simp)).mono fun r H' ⟨e, _⟩ => by subst e; simp)
/-! one after the other -/
def doneQ (D : List Nat) (i : Int) : Bool := decide (0 ≤ i) && D.contains i.toNat
def nextT (ns : List (List Int)) (D : List Nat) : Option Nat := (List.range ns.length).find? fun t => readyN ns (doneQ D) t
def ordN (ns : List (List Int)) : Nat → List Nat → List Nat
  | 0, D => D
  | k + 1, D => match nextT ns D with | some t => ordN ns k (D ++ [t]) | none => D
def order33 (ns : List (List Int)) : List Nat := ordN ns ns.length []
theorem nextT_head {ns : List (List Int)} {D : List Nat} : nextT ns D = (readyL ns (doneQ D) ns.length).head? := by
  unfold nextT readyL
  rw [List.head?_filter]
theorem nextT_some {ns : List (List Int)} {D : List Nat} {t : Nat} (h : nextT ns D = some t) : t < ns.length ∧ t ∉ D ∧ readyN ns (doneQ D) t = true := by
  have h1 := List.find?_some h
  have h2 := List.mem_range.1 (List.mem_of_find?_eq_some h)
  refine ⟨h2, ?_, h1⟩
  unfold readyN at h1
  simp [doneQ] at h1
  exact h1.1.2
/-- which are done, as a list -/
def doneB (n : Nat) (D : List Nat) : List Bool := (List.range n).map fun i => D.contains i
theorem doneB_isD {n : Nat} {D : List Nat} (hD : ∀ i, i ∈ D → i < n) (t : Int) : isD (doneB n D) t = doneQ D t := by
  unfold isD doneQ doneB
  by_cases h : 0 ≤ t
  · obtain ⟨k, rfl⟩ : ∃ k : Nat, t = k := ⟨t.toNat, by omega⟩
    by_cases hk : k < n
    · simp [hk]
    · have : k ∉ D := fun hm => hk (hD k hm)
      simp [hk, this]
  · simp [h]
theorem doneB_set {n t : Nat} {D : List Nat} (ht : t < n) : (doneB n D).set t true = doneB n (D ++ [t]) := by
  unfold doneB
  apply List.ext_getElem?
  intro i
  rw [List.getElem?_set]
  by_cases e : t = i
  · subst e; simp [ht]
  · rw [if_neg e, List.getElem?_map, List.getElem?_map]
    cases hi : (List.range n)[i]? with
    | none => rfl
    | some x =>
      have : x = i := by
        have := List.getElem?_eq_some_iff.1 hi
        obtain ⟨_, h2⟩ := this
        simpa using h2.symm
      subst this
      simp [show ¬ x = t from fun h => e h.symm]
theorem readyL_done {ns : List (List Int)} {n : Nat} {D : List Nat} (hD : ∀ i, i ∈ D → i < n) (k : Nat) : readyL ns (isD (doneB n D)) k = readyL ns (doneQ D) k := by
  have : isD (doneB n D) = doneQ D := funext fun t => doneB_isD hD t
  rw [this]
theorem nodup_le {D : List Nat} {n : Nat} (h1 : D.Nodup) (h2 : ∀ i, i ∈ D → i < n) : D.length ≤ n := by
  have := List.Nodup.length_le_of_subset h1 (l₂ := List.range n) fun i hi => List.mem_range.2 (h2 i hi)
  simpa using this
theorem ordN_end {ns : List (List Int)} : ∀ {k : Nat} {D : List Nat}, nextT ns D = none → ordN ns k D = D
  | 0, D, _ => rfl
  | k + 1, D, h => by rw [ordN, h]
instance : Selfs AV.bool := ⟨fun a x h => by simp [AV.cells] at h; subst h; simp⟩
set_option maxRecDepth 4000 in
theorem T_rorder33 (p : Plan) (hp : PlanIn p) (hs : p.pipes.length ≤ 1000) : T Try.prog 41 [p.av] (slA natA (order33 p.ns)) := by
  have hnl := p.ns_len
  have hrep : ∀ n, repeatA [AV.bool false] n = bools' (doneB n []) := by
    intro n
    have : ∀ n, repeatA [AV.bool false] n = bools' (List.replicate n false) := by
      intro n
      induction n with
      | zero => rfl
      | succ n ih => rw [repeatA, ih]; rfl
    rw [this]
    congr 1
    unfold doneB
    apply List.ext_getElem <;> simp
  obtain ⟨n, hn⟩ : ∃ n, n = p.pipes.length := ⟨_, rfl⟩
  refine T.intro (TS.body mix Try.func41 (by kernel_rfl) rfl (by kernel_rfl) (by simp) ?_)
  simp
  refine ⟨by omega, ?_⟩
  rw [hrep, ← hn]
  refine vc_loop (fun k : Nat => k) (fun k e H => ∃ (J : List HO) (D : List Nat), e 1 = .ptr 0 0 ∧ e 3 = .mv 1 n 1 0 n ∧ GrowK 2 1 J (e 4) (nats' D) ∧ D.Nodup ∧ (∀ i, i ∈ D → i < n) ∧ k + D.length = n ∧ order33 p.ns = ordN p.ns k D ∧ H = .box p.cs :: .row n 1 (bools' (doneB n D)) :: J) n ?_ ?_
  · exact ⟨[], [], by simp, by simp, by simp [GrowK], by simp, by simp, by simp, by unfold order33; rw [hnl, hn], by simp⟩
  rintro k e H ⟨J, D, e1, e3, hg, hnd, hD, hk, ho, rfl⟩
  have hl : (doneB n D).length = n := by simp [doneB]
  have hall := S_rall33 (.box p.cs :: .row n 1 (bools' (doneB n D)) :: J) (.mv 1 n 1 0 n) p (doneB n D) (by omega) hp hs (fun L => Frz.mvA (by simp) hl)
  rw [readyL_done hD, ← hn] at hall
  have hx : nextT p.ns D = (readyL p.ns (doneQ D) n).head? := by rw [nextT_head, hnl, hn]
  have hrl := readyL_len (ns := p.ns) (q := doneQ D) (k := n)
  generalize readyL p.ns (doneQ D) n = L at *
  simp [e1, e3]
  refine TS.pt hall ?_
  simp [e1, e3]
  cases L with
  | nil =>
    simp at hx
    rw [ordN_end hx] at ho
    obtain ⟨own, hg⟩ := hg.own
    simp [e1, e3, hg]
    rw [ho]
  | cons t L =>
    simp at hx
    obtain ⟨t1, t2, t3⟩ := nextT_some hx
    rw [hnl] at t1
    have htn : t < n := by omega
    have hle := nodup_le (D := D ++ [t]) (n := n) (by
      rw [List.nodup_append]
      exact ⟨hnd, by simp, fun a ha b hb => by simp at hb; subst hb; rintro rfl; exact t2 ha⟩) (fun i hi => by
      rcases List.mem_append.1 hi with hi | hi
      · exact hD i hi
      · simp at hi; omega)
    simp at hle
    have hk0 : k ≠ 0 := by omega
    obtain ⟨k, rfl⟩ : ∃ j, k = j + 1 := ⟨k - 1, by omega⟩
    rw [ordN, hx] at ho
    simp [e1, e3]
    refine TS.pt hall ?_
    have hset : (doneB n D).take t ++ true :: (doneB n D).drop (t + 1) = doneB n (D ++ [t]) := by
      rw [← doneB_set htn, List.set_eq_take_append_cons_drop, if_pos (by omega)]
    have hnd' : (D ++ [t]).Nodup := by
      rw [List.nodup_append]
      exact ⟨hnd, by simp, fun a ha b hb => by simp at hb; subst hb; rintro rfl; exact t2 ha⟩
    have hD' : ∀ i, i ∈ D ++ [t] → i < n := fun i hi => by
      rcases List.mem_append.1 hi with hi | hi
      · exact hD i hi
      · simp at hi; omega
    rcases hg with ⟨ge, hg⟩ | ⟨q, hg, ht⟩
    · rw [avs_eq_nil] at ge
      subst ge
      simp [e1, e3, hg, hset]
      exact ⟨htn, by omega, k, by omega, J ++ [.spare 1 1], [t], GrowK.first (f := natA) (l := []) rfl (by simp), by simp, by simpa using htn, by simp at hk; omega, ho, rfl, rfl⟩
    · have ht' : J[q]? = some (.spare D.length 1) := by simpa using ht
      simp [e1, e3, hg, ht', hset]
      exact ⟨htn, by omega, by omega, k, by omega, J.set q (.spare (D.length + 1) 1), D ++ [t], GrowK.more (f := natA) ht rfl, hnd', hD', by simp; omega, ho, rfl, rfl⟩
end Go.Proofs.Ytgmhmdmfnmlhmab.PL
