/- Conditions, by where they are asked: the reference's answer. -/
import Derived.Test.YtcjfjoilgnlemaaFNorm4
namespace Go.Proofs.Ytcjfjoilgnlemaa.PL
open Go.Proofs
set_option linter.unusedVariables false
set_option linter.unusedSimpArgs false
instance : Selfs Lt.av := ⟨fun a x h => by simp at h; rcases h with rfl | rfl | rfl | rfl | rfl <;> simp⟩
structure Nrm where
  core : Int
  scan : List (List Ex')
  edges : List Edg
  rest : List Ex'
  late : List Lt
  whr : List Ex'
abbrev Nrm.cs (x : Nrm) : List AV := [.int .i64 x.core, .sl .no (avs (slA Ex'.av) x.scan), .sl .no (edgs x.edges), .sl .no (exprs x.rest), .sl .no (ltsA x.late), .sl .no (exprs x.whr)]
abbrev Nrm.av (x : Nrm) : AV := .agg x.cs
instance : Plain Nrm.av := ⟨fun x => by simp [AV.pl, AV.pls]⟩
def isAt (core : Int) (t : Int) (e : Ex') : Bool := decide (whereE core e = 2) && decide (usesI e = [t])
def isWh (core : Int) (k : Int) (e : Ex') : Bool := decide (whereE core e = k)
theorem where2 {core : Int} {e : Ex'} (h : whereE core e = 2) : ∃ u, usesI e = [u] := by
  unfold whereE at h
  split at h
  · omega
  split at h
  · rename_i h1
    match hU : usesI e, h1 with
    | [u], _ => exact ⟨u, rfl⟩
  split at h <;> omega
theorem where_vals (core : Int) (e : Ex') : whereE core e = 0 ∨ whereE core e = 1 ∨ whereE core e = 2 ∨ whereE core e = 3 := by
  unfold whereE
  split
  · simp
  split
  · simp
  split <;> simp
theorem edgs_snoc (L : List Edg) (x : Edg) : edgs L ++ [.agg x.cs] = edgs (L ++ [x]) := by simp [avs]
/-- the conditions that the first tables are joined on, without the first's -/
def onsF (frm : List Frm) (k : Nat) : List Ex' := Ex'.partsL (((frm.drop 1).take k).map Frm.on)
def allF (q : Qry) : List Ex' := onsF q.frm (coreF q.frm - 1) ++ q.whr.parts
def scanF (q : Qry) (k : Nat) : List (List Ex') := (List.range k).map fun t : Nat => (allF q).filter (isAt (coreF q.frm) t)
def lateK (frm : List Frm) (c : Nat) : Nat → List Lt
  | 0 => []
  | k + 1 => lateK frm c k ++ (match frm[c + k]? with | some f => [lateF f ((c + k : Nat) : Int)] | none => [])
theorem lateK_len (frm : List Frm) (c : Nat) (k : Nat) : (lateK frm c k).length ≤ k := by
  induction k with
  | zero => simp [lateK]
  | succ k ih =>
    rw [lateK, List.length_append]
    split <;> simp <;> omega
def normR (q : Qry) : Nrm := ⟨coreF q.frm, scanF q (coreF q.frm), ((allF q).filter (isWh (coreF q.frm) 3)).map asEdge, (allF q).filter (isWh (coreF q.frm) 0), lateK q.frm (coreF q.frm) (q.frm.length - coreF q.frm), (allF q).filter (isWh (coreF q.frm) 1)⟩
theorem onsF_next {frm : List Frm} {k : Nat} (h : k + 1 < frm.length) : onsF frm (k + 1) = onsF frm k ++ (frm[k + 1]).on.parts := by
  have h' : k < (frm.drop 1).length := by simp; omega
  unfold onsF
  rw [take_next h', List.map_append, Ex'.partsL_append]
  simp [Ex'.partsL, List.getElem_drop, Nat.add_comm]
theorem onsF_len {frm : List Frm} (hn : ∀ f, f ∈ frm → f.on.nodes ≤ 1000) (k : Nat) : (onsF frm k).length ≤ 1000 * k := by
  induction k with
  | zero => simp [onsF, Ex'.partsL]
  | succ k ih =>
    rcases Nat.lt_or_ge (k + 1) frm.length with h | h
    · have h1 := (frm[k + 1]).on.parts_len
      have h2 := hn _ (List.getElem_mem h)
      rw [onsF_next h, List.length_append]
      omega
    · have : onsF frm (k + 1) = onsF frm k := by
        unfold onsF
        rw [List.take_of_length_le (by simp; omega), List.take_of_length_le (by simp; omega)]
      rw [this]; omega
theorem partsL_ok {l : List Ex'} {x : Ex'} (hx : x ∈ Ex'.partsL l) : ∃ y, y ∈ l ∧ x ∈ y.parts := by
  induction l with
  | nil => simp [Ex'.partsL] at hx
  | cons y l ih =>
    rw [Ex'.partsL, List.mem_append] at hx
    rcases hx with h | h
    · exact ⟨y, by simp, h⟩
    · obtain ⟨z, h1, h2⟩ := ih h
      exact ⟨z, by simp [h1], h2⟩
/-- queries that are asked in statements -/
structure Smal (q : Qry) : Prop where
  frm : q.frm.length ≤ 100
  on : ∀ f, f ∈ q.frm → f.on.nodes ≤ 1000
  whr : q.whr.nodes ≤ 1000
theorem allF_ok {q : Qry} (hq : OkQ q) (hs : Smal q) : ∀ x, x ∈ allF q → OkE x ∧ x.nodes ≤ 1000 := by
  intro x hx
  rw [allF, List.mem_append] at hx
  rcases hx with h | h
  · obtain ⟨y, h1, h2⟩ := partsL_ok h
    obtain ⟨f, h3, rfl⟩ := List.mem_map.1 h1
    have hf : f ∈ q.frm := List.mem_of_mem_drop (List.mem_of_mem_take h3)
    have := f.on.parts_ok (hq.frm f hf).on x h2
    have h4 := hs.on f hf
    exact ⟨this.1, by omega⟩
  · have h5 := q.whr.parts_ok hq.whr x h
    have h4 := hs.whr
    exact ⟨h5.1, by omega⟩
theorem allF_len {q : Qry} (hs : Smal q) : (allF q).length ≤ 101000 := by
  have h1 := onsF_len hs.on (coreF q.frm - 1)
  have h2 := q.whr.parts_len
  have h3 := hs.whr
  have h4 := hs.frm
  have h5 := coreF_le q.frm
  rw [allF, List.length_append]
  omega
abbrev zN : List AV := [.int .i64 0, .sl .exact [], .sl .exact [], .sl .exact [], .sl .exact [], .sl .exact []]
abbrev nbx (q : Qry) (sc ed re la wh : AV) : HO := .box [.int .i64 (coreF q.frm), sc, ed, re, la, wh]
abbrev nE : AV := .sl .exact []
/-- the memory: lists that grow -/
def NI0 (q : Qry) (L : List Ex') (x : AV) (H : List HO) : Prop := ∃ J o, H = .box q.cs :: .box zN :: nbx q nE nE nE nE nE :: J ∧ Gr 3 9 J x (exprs L) o
def NI2 (q : Qry) (k : Nat) (H : List HO) : Prop := ∃ J xs o l, H = .box q.cs :: .box zN :: nbx q xs nE nE nE nE :: J ∧ Gr 3 1 J xs (avs (oslA Ex'.av) l) o ∧ l.map Prod.snd = scanF q k
def NI4 (q : Qry) (k : Nat) (L : List Ex') (x : AV) (H : List HO) : Prop := ∃ J xs o l o', H = .box q.cs :: .box zN :: nbx q xs nE nE nE nE :: J ∧ Gr 3 1 J xs (avs (oslA Ex'.av) l) o ∧ l.map Prod.snd = scanF q k ∧ Gr 3 9 J x (exprs L) o'
def NI6 (q : Qry) (L : List Ex') (H : List HO) : Prop := ∃ J oS lS ed re wh oe or ow, H = .box q.cs :: .box zN :: nbx q (.sl oS (avs (oslA Ex'.av) lS)) ed re nE wh :: J ∧ lS.map Prod.snd = scanF q (coreF q.frm) ∧ Gr 3 4 J ed (edgs ((L.filter (isWh (coreF q.frm) 3)).map asEdge)) oe ∧ Gr 3 9 J re (exprs (L.filter (isWh (coreF q.frm) 0))) or ∧ Gr 3 9 J wh (exprs (L.filter (isWh (coreF q.frm) 1))) ow ∧ ∀ u, or = some u → ow ≠ some u
theorem NI6.intro {q : Qry} {L : List Ex'} {H : List HO} (J oS lS ed re wh oe or ow) (h : H = .box q.cs :: .box zN :: nbx q (.sl oS (avs (oslA Ex'.av) lS)) ed re nE wh :: J) (hS : lS.map Prod.snd = scanF q (coreF q.frm)) {le lr lw} (ee : (L.filter (isWh (coreF q.frm) 3)).map asEdge = le) (er : L.filter (isWh (coreF q.frm) 0) = lr) (ew : L.filter (isWh (coreF q.frm) 1) = lw) (ge : Gr 3 4 J ed (edgs le) oe) (gr : Gr 3 9 J re (exprs lr) or) (gw : Gr 3 9 J wh (exprs lw) ow) (hd : ∀ u, or = some u → ow ≠ some u) : NI6 q L H := by
  subst ee er ew
  exact ⟨J, oS, lS, ed, re, wh, oe, or, ow, h, hS, ge, gr, gw, hd⟩
def NI8 (q : Qry) (k : Nat) (H : List HO) : Prop := ∃ J oS lS oE oR oW xl ol, H = .box q.cs :: .box zN :: nbx q (.sl oS (avs (oslA Ex'.av) lS)) (.sl oE (edgs (normR q).edges)) (.sl oR (exprs (normR q).rest)) xl (.sl oW (exprs (normR q).whr)) :: J ∧ lS.map Prod.snd = scanF q (coreF q.frm) ∧ Gr 3 5 J xl (ltsA (lateK q.frm (coreF q.frm) k)) ol
set_option maxRecDepth 4000 in
set_option maxHeartbeats 4000000 in
theorem T_rof16 (q : Qry) (hq : OkQ q) (hs : Smal q) : T Try.prog 35 [q.av] (normR q).av := by
  have kc := T_rcore q hq.len
  have hcl := coreF_le q.frm
  have kw := T_rparts q.whr hq.whr (by have := hs.whr; omega)
  have hwl := q.whr.parts_len
  have hal := allF_len hs
  have hao := allF_ok hq hs
  have s1 := hs.frm
  have s2 := hs.on
  have s3 := hs.whr
  simp only [Ex'.av_eq] at kw
  unfold normR
  refine T.introF (TS.body mix Try.func35 (by kernel_rfl) rfl (by kernel_rfl) (by simp) ?_)
  simp
  refine TS.callW kc (Dws.self (by simp)) ?_
  simp
  refine vc_loop (fun i : Nat => q.frm.length - i) (fun i e H => e 1 = .ptr 0 0 ∧ e 2 = .ptr 1 0 ∧ e 3 = .ptr 2 0 ∧ e 5 = .int .i64 ((i + 1 : Nat) : Int) ∧ i ≤ coreF q.frm - 1 ∧ NI0 q (onsF q.frm i) (e 4) H) 0 ?_ ?_
  · simp
    refine ⟨[], none, ?_⟩
    simp [Gr, onsF, Ex'.partsL]
  rintro i e H ⟨e1, e2, e3, e5, hi, J, o, rfl, hg⟩
  by_cases hlt : i + 1 < coreF q.frm
  · have hfl : i + 1 < q.frm.length := by omega
    have ew : IntKind.i64.wrap (((i + 1 : Nat) : Int) + 1) = ((i + 1 + 1 : Nat) : Int) := wrap_next (n := q.frm.length) hfl (by omega)
    have hfm := List.getElem_mem hfl
    have kp := T_rparts (q.frm[i + 1]).on (hq.frm _ hfm).on (by have := s2 _ hfm; omega)
    have hp1 := (q.frm[i + 1]).on.parts_len
    have hp2 := s2 _ hfm
    have hol := onsF_len s2 i
    have hnx := onsF_next hfl
    simp only [Ex'.av_eq] at kp
    obtain ⟨L, hL⟩ : ∃ L, L = onsF q.frm i := ⟨_, rfl⟩
    obtain ⟨C, hC⟩ : ∃ C, C = (q.frm[i + 1]).on.parts := ⟨_, rfl⟩
    rw [← hL] at hg hol hnx
    rw [← hC] at kp hp1 hnx
    obtain ⟨i1, hi1⟩ : ∃ i1, i1 = i + 1 := ⟨_, rfl⟩
    have hii : (i1 : Int) < coreF q.frm := by omega
    simp only [← hi1] at e5 hlt hfl ew kp hnx
    simp [e1, e2, e3, e5, hlt, hfl]
    refine TS.callW kp (Dws.self (by simp)) ?_
    cases o with
    | none =>
      obtain ⟨g0, gx⟩ := hg
      rw [avs_eq_nil] at g0
      subst g0
      have e4 : (e 4).ex = .sl .exact [] := by rcases gx with h | h <;> rw [h] <;> rfl
      simp [e1, e2, e3, e5, e4, hlt, hfl]
      refine ⟨⟨by omega, by omega⟩, i + 1, by omega, by omega, by omega, ?_⟩
      rw [List.nil_append] at hnx
      by_cases hC0 : C = []
      · subst hC0
        refine ⟨_, none, rfl, ?_⟩
        rw [← hi1, hnx]
        exact ⟨rfl, .inr (by simp)⟩
      · have : 0 < C.length := List.length_pos_iff.2 hC0
        refine ⟨_, some J.length, rfl, ?_⟩
        rw [← hi1, hnx]
        simp [this, Gr]
    | some t =>
      obtain ⟨e4, ht⟩ := hg
      have htl := (List.getElem?_eq_some_iff.1 ht).1
      simp [e1, e2, e3, e5, e4, hlt, hfl, ht]
      refine ⟨⟨by omega, by omega⟩, i + 1, by omega, by omega, by omega, _, some t, rfl, ?_⟩
      rw [← hi1, hnx]
      exact ⟨by simp, by rw [List.getElem?_set_self htl]; simp⟩
  · have hie : i = coreF q.frm - 1 := by omega
    subst hie
    have hol := onsF_len s2 (coreF q.frm - 1)
    have hall : allF q = onsF q.frm (coreF q.frm - 1) ++ q.whr.parts := rfl
    obtain ⟨L, hL⟩ : ∃ L, L = onsF q.frm (coreF q.frm - 1) := ⟨_, rfl⟩
    obtain ⟨C, hC⟩ : ∃ C, C = q.whr.parts := ⟨_, rfl⟩
    rw [← hL] at hg hol hall
    rw [← hC] at kw hwl hall
    have hni : ¬ ((coreF q.frm - 1 : Nat) : Int) + 1 < coreF q.frm := by omega
    simp [e1, e2, e3, e5, hni]
    refine TS.callW kw (Dws.self (by simp)) ?_
    simp [e1, e2, e3, e5]
    have key : ∃ o' J', appS Try.prog 48 48 false (e 4).ex (.sl .no (exprs C)) (.box q.cs :: .box zN :: nbx q nE nE nE nE nE :: J) ∧ appV Try.prog 48 false (e 4).ex (.sl .no (exprs C)) (.box q.cs :: .box zN :: nbx q nE nE nE nE nE :: J) = .sl o' (exprs (allF q)) ∧ appH Try.prog 48 false (e 4).ex (.sl .no (exprs C)) (.box q.cs :: .box zN :: nbx q nE nE nE nE nE :: J) = .box q.cs :: .box zN :: nbx q nE nE nE nE nE :: J' := by
      cases o with
      | none =>
        obtain ⟨g0, gx⟩ := hg
        rw [avs_eq_nil] at g0
        subst g0
        have e4 : (e 4).ex = .sl .exact [] := by rcases gx with h | h <;> rw [h] <;> rfl
        rw [List.nil_append] at hall
        simp [e4, hall]
        omega
      | some t =>
        obtain ⟨e4, ht⟩ := hg
        simp [e4, ht, hall]
        omega
    obtain ⟨oA, J, k1, k2, k3⟩ := key
    refine ⟨k1, ?_⟩
    rw [k2, k3]
    clear k1 k2 k3 hg
    refine vc_loop (fun t : Nat => coreF q.frm - t) (fun t e H => e 1 = .ptr 0 0 ∧ e 2 = .ptr 1 0 ∧ e 3 = .ptr 2 0 ∧ e 4 = .sl oA (exprs (allF q)) ∧ e 6 = .int .i64 t ∧ t ≤ coreF q.frm ∧ NI2 q t H) 0 ?_ ?_
    · simp [e1, e2, e3]
      refine ⟨J, nE, none, [], rfl, ?_⟩
      simp [Gr, scanF]
    clear e1 e2 e3 e5 e J
    rintro t e H ⟨e1, e2, e3, e4, e6, ht, J, xs, os, lS, rfl, gs, hS⟩
    by_cases htl : t < coreF q.frm
    · have htw : IntKind.i64.wrap ((t : Int) + 1) = ((t + 1 : Nat) : Int) := wrap_next htl (by omega)
      simp [e1, e2, e3, e4, e6, htl]
      refine vc_loop (fun j : Nat => (allF q).length - j) (fun j e H => e 1 = .ptr 0 0 ∧ e 2 = .ptr 1 0 ∧ e 3 = .ptr 2 0 ∧ e 4 = .sl oA (exprs (allF q)) ∧ e 6 = .int .i64 t ∧ e 8 = .int .i64 j ∧ j ≤ (allF q).length ∧ NI4 q t (((allF q).take j).filter (isAt (coreF q.frm) t)) (e 7) H) 0 ?_ ?_
      · simp [e1, e2, e3, e4, e6]
        exact ⟨J, xs, os, lS, none, rfl, gs, hS, rfl, .inl rfl⟩
      clear e1 e2 e3 e4 e6 e gs hS xs os lS J
      rintro j e H ⟨e1, e2, e3, e4, e6, e8, hj, J, xs, os, lS, o7, rfl, gs, hS, g7⟩
      by_cases hjl : j < (allF q).length
      · have hx := hao _ (List.getElem_mem hjl)
        have kwh := T_where (allF q)[j] (coreF q.frm) hx.1 (by omega)
        have kus := T_ruses (allF q)[j] hx.1 (by omega)
        have ejw := wrap_next hjl (by omega)
        have nx := filter_next (q := isAt (coreF q.frm) t) hjl
        simp only [Ex'.av_eq] at kwh kus
        simp [e1, e2, e3, e4, e6, e8, hjl]
        refine TDK.callW kwh (Dws.self (by simp)) ?_
        by_cases h2 : whereE (coreF q.frm) (allF q)[j] = 2
        · obtain ⟨u, hu⟩ := where2 h2
          rw [hu] at kus
          simp [e1, e2, e3, e4, e6, e8, hjl, h2]
          refine GTK.callW (fun _ => ⟨kus, Dws.self (by simp)⟩) ?_
          by_cases hut : u = t
          · have hA : isAt (coreF q.frm) t (allF q)[j] = true := by simp [isAt, h2, hu, hut]
            rw [if_pos hA] at nx
            obtain ⟨LA, hLA⟩ : ∃ L, L = ((allF q).take j).filter (isAt (coreF q.frm) t) := ⟨_, rfl⟩
            have bA : LA.length ≤ j := by rw [hLA]; exact Nat.le_trans (List.length_filter_le _ _) (by simp; omega)
            rw [← hLA] at g7 nx
            cases o7 with
            | none =>
              obtain ⟨g0, gx⟩ := g7
              rw [avs_eq_nil] at g0
              subst g0
              have e7 : (e 7).ex = .sl .exact [] := by rcases gx with h | h <;> rw [h] <;> rfl
              simp [e1, e2, e3, e4, e6, e7, e8, hjl, h2, hut]
              refine ⟨j + 1, by omega, ejw, by omega, _, xs, os, lS, some J.length, rfl, gs.app _, hS, ?_⟩
              rw [nx]
              simp [Gr]
            | some w =>
              obtain ⟨e7, hw⟩ := g7
              have hwl := (List.getElem?_eq_some_iff.1 hw).1
              have d1 := Gr.ne gs (show Gr 3 9 J _ _ (some w) from ⟨rfl, hw⟩) (by omega) w rfl
              simp [e1, e2, e3, e4, e6, e7, e8, hjl, h2, hut, hw]
              refine ⟨⟨by omega, by omega⟩, j + 1, by omega, ejw, by omega, _, xs, os, lS, some w, rfl, gs.set d1 _, hS, ?_⟩
              rw [nx]
              exact ⟨congrArg _ (exprs_snoc _ _), by rw [List.getElem?_set_self hwl]; simp⟩
          · have hA : ¬ isAt (coreF q.frm) t (allF q)[j] = true := by simp [isAt, hu, hut]
            rw [if_neg hA] at nx
            simp [e1, e2, e3, e4, e6, e8, hjl, h2, hut]
            exact ⟨j + 1, by omega, ejw, by omega, J, xs, os, lS, o7, rfl, gs, hS, by rw [nx]; exact g7⟩
        · have hA : ¬ isAt (coreF q.frm) t (allF q)[j] = true := by simp [isAt, h2]
          rw [if_neg hA] at nx
          simp [e1, e2, e3, e4, e6, e8, hjl, h2]
          refine GTK.callW (fun h => nomatch h) (ys := []) (r := .bool true) ?_
          simp [e1, e2, e3, e4, e6, e8, hjl, h2]
          exact ⟨j + 1, by omega, ejw, by omega, J, xs, os, lS, o7, rfl, gs, hS, by rw [nx]; exact g7⟩
      · have : j = (allF q).length := by omega
        subst this
        rw [List.take_length] at g7
        obtain ⟨o7', e7⟩ := g7.own
        have hSn : scanF q (t + 1) = scanF q t ++ [(allF q).filter (isAt (coreF q.frm) t)] := by simp [scanF, List.range_succ]
        have hlen : lS.length = t := by have := congrArg List.length hS; simpa [scanF] using this
        cases os with
        | none =>
          obtain ⟨g0, gx⟩ := gs
          rw [avs_eq_nil] at g0
          subst g0
          have ex : xs.ex = .sl .exact [] := by rcases gx with h | h <;> rw [h] <;> rfl
          simp [e1, e2, e3, e4, e6, e7, e8, ex]
          refine ⟨t + 1, by omega, htw, by omega, _, _, some J.length, [(o7', (allF q).filter (isAt (coreF q.frm) t))], rfl, ?_, ?_⟩
          · simp [Gr, oslA]
          · rw [hSn, ← hS]; rfl
        | some w =>
          obtain ⟨rfl, hw⟩ := gs
          have hwl := (List.getElem?_eq_some_iff.1 hw).1
          simp [e1, e2, e3, e4, e6, e7, e8, hw]
          refine ⟨⟨by omega, by omega⟩, t + 1, by omega, htw, by omega, _, _, some w, lS ++ [(o7', (allF q).filter (isAt (coreF q.frm) t))], rfl, ?_, ?_⟩
          · exact ⟨by simp [oslA, avs], by rw [List.getElem?_set_self hwl]; simp⟩
          · rw [hSn, ← hS]; simp
    · have : t = coreF q.frm := by omega
      subst this
      obtain ⟨oS, rfl⟩ := gs.own
      simp [e1, e2, e3, e4, e6]
      refine vc_loop (fun j : Nat => (allF q).length - j) (fun j e H => e 1 = .ptr 0 0 ∧ e 2 = .ptr 1 0 ∧ e 3 = .ptr 2 0 ∧ e 4 = .sl oA (exprs (allF q)) ∧ e 9 = .int .i64 j ∧ j ≤ (allF q).length ∧ NI6 q ((allF q).take j) H) 0 ?_ ?_
      · simp [e1, e2, e3, e4]
        exact NI6.intro J oS lS _ _ _ none none none rfl hS rfl rfl rfl ⟨rfl, .inr rfl⟩ ⟨rfl, .inr rfl⟩ ⟨rfl, .inr rfl⟩ (by simp)
      clear e1 e2 e3 e4 e6 e gs hS lS J
      rintro j e H ⟨e1, e2, e3, e4, e9, hj, J, oS, lS, ed, re, wh, oe, or, ow, rfl, hS, ge, gr, gw, hd⟩
      by_cases hjl : j < (allF q).length
      · have hx := hao _ (List.getElem_mem hjl)
        have kwh := T_where (allF q)[j] (coreF q.frm) hx.1 (by omega)
        have kae := T_rasEdge (allF q)[j] hx.1
        have ejw := wrap_next hjl (by omega)
        simp only [Ex'.av_eq] at kwh kae
        simp [e1, e2, e3, e4, e9, hjl]
        refine TDK.callW kwh (Dws.self (by simp)) ?_
        have ne : (((allF q).take (j + 1)).filter (isWh (coreF q.frm) 3)).map asEdge = if isWh (coreF q.frm) 3 (allF q)[j] = true then (((allF q).take j).filter (isWh (coreF q.frm) 3)).map asEdge ++ [asEdge (allF q)[j]] else (((allF q).take j).filter (isWh (coreF q.frm) 3)).map asEdge := by
          rw [filter_next hjl]; split <;> simp
        have nr := filter_next (q := isWh (coreF q.frm) 0) hjl
        have nw := filter_next (q := isWh (coreF q.frm) 1) hjl
        simp only [isWh, decide_eq_true_eq] at ne nr nw
        change _ = if _ then (List.filter (isWh (coreF q.frm) 3) _).map asEdge ++ _ else (List.filter (isWh (coreF q.frm) 3) _).map asEdge at ne
        change _ = if _ then List.filter (isWh (coreF q.frm) 0) _ ++ _ else List.filter (isWh (coreF q.frm) 0) _ at nr
        change _ = if _ then List.filter (isWh (coreF q.frm) 1) _ ++ _ else List.filter (isWh (coreF q.frm) 1) _ at nw
        obtain ⟨LE, hLE⟩ : ∃ L, L = (((allF q).take j).filter (isWh (coreF q.frm) 3)).map asEdge := ⟨_, rfl⟩
        obtain ⟨LR, hLR⟩ : ∃ L, L = ((allF q).take j).filter (isWh (coreF q.frm) 0) := ⟨_, rfl⟩
        obtain ⟨LW, hLW⟩ : ∃ L, L = ((allF q).take j).filter (isWh (coreF q.frm) 1) := ⟨_, rfl⟩
        have bE : LE.length ≤ j := by rw [hLE, List.length_map]; exact Nat.le_trans (List.length_filter_le _ _) (by simp; omega)
        have bR : LR.length ≤ j := by rw [hLR]; exact Nat.le_trans (List.length_filter_le _ _) (by simp; omega)
        have bW : LW.length ≤ j := by rw [hLW]; exact Nat.le_trans (List.length_filter_le _ _) (by simp; omega)
        rw [← hLE] at ge ne
        rw [← hLR] at gr nr
        rw [← hLW] at gw nw
        clear hLE hLR hLW
        rcases where_vals (coreF q.frm) (allF q)[j] with hW | hW | hW | hW
        · simp [hW] at ne nr nw
          cases or with
          | none =>
            obtain ⟨g0, gx⟩ := gr
            rw [avs_eq_nil] at g0
            subst g0
            have ex : re.ex = .sl .exact [] := by rcases gx with h | h <;> rw [h] <;> rfl
            simp [e1, e2, e3, e4, e9, hjl, hW, ex]
            refine ⟨j + 1, by omega, ejw, by omega, NI6.intro _ oS lS ed _ wh oe (some J.length) ow rfl hS ne nr nw (ge.app _) ⟨?_, by simp⟩ (gw.app _) fun u hu2 hu3 => ?_⟩
            · simp
            · injection hu2 with hu2; have := gw.lt u hu3; omega
          | some w =>
            obtain ⟨rfl, hw⟩ := gr
            have hwl := (List.getElem?_eq_some_iff.1 hw).1
            have d1 := Gr.ne ge (show Gr 3 9 J _ _ (some w) from ⟨rfl, hw⟩) (by omega) w rfl
            have d2 : ow ≠ some w := hd w rfl
            have hw' : ∀ Y : List HO, (J ++ Y)[w]? = some (.spare LR.length 9) := fun Y => by rw [List.getElem?_append_left hwl]; simpa using hw
            simp [e1, e2, e3, e4, e9, hjl, hW, hw, hw']
            refine ⟨⟨by omega, by omega⟩, j + 1, by omega, ejw, by omega, NI6.intro _ oS lS ed _ wh oe (some w) ow rfl hS ne nr nw (ge.set d1 _) ⟨?_, ?_⟩ (gw.set d2 _) hd⟩
            · exact congrArg _ (exprs_snoc _ _)
            · rw [List.getElem?_set_self (by first | exact hwl | (simp; omega))]; simp
        · simp [hW] at ne nr nw
          cases ow with
          | none =>
            obtain ⟨g0, gx⟩ := gw
            rw [avs_eq_nil] at g0
            subst g0
            have ex : wh.ex = .sl .exact [] := by rcases gx with h | h <;> rw [h] <;> rfl
            simp [e1, e2, e3, e4, e9, hjl, hW, ex]
            refine ⟨j + 1, by omega, ejw, by omega, NI6.intro _ oS lS ed re _ oe or (some J.length) rfl hS ne nr nw (ge.app _) (gr.app _) ⟨?_, by simp⟩ fun u hu2 hu3 => ?_⟩
            · simp
            · injection hu3 with hu3; have := gr.lt u hu2; omega
          | some w =>
            obtain ⟨rfl, hw⟩ := gw
            have hwl := (List.getElem?_eq_some_iff.1 hw).1
            have d1 := Gr.ne ge (show Gr 3 9 J _ _ (some w) from ⟨rfl, hw⟩) (by omega) w rfl
            have d2 : or ≠ some w := fun h => hd w h rfl
            have hw' : ∀ Y : List HO, (J ++ Y)[w]? = some (.spare LW.length 9) := fun Y => by rw [List.getElem?_append_left hwl]; simpa using hw
            simp [e1, e2, e3, e4, e9, hjl, hW, hw, hw']
            refine ⟨⟨by omega, by omega⟩, j + 1, by omega, ejw, by omega, NI6.intro _ oS lS ed re _ oe or (some w) rfl hS ne nr nw (ge.set d1 _) (gr.set d2 _) ⟨?_, ?_⟩ hd⟩
            · exact congrArg _ (exprs_snoc _ _)
            · rw [List.getElem?_set_self (by first | exact hwl | (simp; omega))]; simp
        · simp [hW] at ne nr nw
          simp [e1, e2, e3, e4, e9, hjl, hW]
          exact ⟨j + 1, by omega, ejw, by omega, NI6.intro J oS lS ed re wh oe or ow rfl hS ne nr nw ge gr gw hd⟩
        · simp [hW] at ne nr nw
          cases oe with
          | none =>
            obtain ⟨g0, gx⟩ := ge
            rw [avs_eq_nil] at g0
            subst g0
            have ex : ed.ex = .sl .exact [] := by rcases gx with h | h <;> rw [h] <;> rfl
            simp [e1, e2, e3, e4, e9, hjl, hW, ex]
            refine TS.callW kae (Dws.self (by simp)) ?_
            simp [e1, e2, e3, e4, e9, hjl, hW, ex]
            refine ⟨j + 1, by omega, ejw, by omega, NI6.intro _ oS lS _ re wh (some (J.length + 1)) or ow rfl hS ne nr nw ⟨?_, by simp⟩ (gr.app _) (gw.app _) hd⟩
            · simp
          | some w =>
            obtain ⟨rfl, hw⟩ := ge
            have hwl := (List.getElem?_eq_some_iff.1 hw).1
            have d1 := Gr.ne gr (show Gr 3 4 J _ _ (some w) from ⟨rfl, hw⟩) (by omega) w rfl
            have d2 := Gr.ne gw (show Gr 3 4 J _ _ (some w) from ⟨rfl, hw⟩) (by omega) w rfl
            have hw' : ∀ Y : List HO, (J ++ Y)[w]? = some (.spare LE.length 4) := fun Y => by rw [List.getElem?_append_left hwl]; simpa using hw
            simp [e1, e2, e3, e4, e9, hjl, hW, hw, hw']
            refine TS.callW kae (Dws.self (by simp)) ?_
            simp [e1, e2, e3, e4, e9, hjl, hW, hw, hw']
            refine ⟨⟨by omega, by omega⟩, j + 1, by omega, ejw, by omega, NI6.intro _ oS lS _ re wh (some w) or ow rfl hS ne nr nw ⟨?_, ?_⟩ ((gr.app _).set d1 _) ((gw.app _).set d2 _) hd⟩
            · first | exact congrArg _ (edgs_snoc _ _) | rfl
            · rw [List.getElem?_set_self (by first | exact hwl | (simp; omega))]; simp
      · have : j = (allF q).length := by omega
        subst this
        rw [List.take_length] at ge gr gw
        obtain ⟨oE, rfl⟩ := ge.own
        obtain ⟨oR, rfl⟩ := gr.own
        obtain ⟨oW, rfl⟩ := gw.own
        clear ge gr gw hd
        simp [e1, e2, e3, e4, e9]
        refine vc_loop (fun k : Nat => q.frm.length - k) (fun k e H => e 1 = .ptr 0 0 ∧ e 2 = .ptr 1 0 ∧ e 3 = .ptr 2 0 ∧ e 13 = .int .i64 ((coreF q.frm + k : Nat) : Int) ∧ k ≤ q.frm.length - coreF q.frm ∧ NI8 q k H) 0 ?_ ?_
        · simp [e1, e2, e3]
          exact ⟨J, oS, lS, oE, oR, oW, nE, none, rfl, hS, rfl, .inr rfl⟩
        clear e1 e2 e3 e4 e9 e hS oS lS J oE oR oW
        rintro k e H ⟨e1, e2, e3, e13, hk, J, oS, lS, oE, oR, oW, xl, ol, rfl, hS, gl⟩
        by_cases hkl : coreF q.frm + k < q.frm.length
        · have hfm := List.getElem_mem hkl
          have kl := T_rlate (q.frm[coreF q.frm + k]) ((coreF q.frm + k : Nat) : Int) (hq.frm _ hfm) (by have := s2 _ hfm; omega)
          have ekw : IntKind.i64.wrap (((coreF q.frm + k : Nat) : Int) + 1) = ((coreF q.frm + k + 1 : Nat) : Int) := wrap_next hkl (by omega)
          have hnx : lateK q.frm (coreF q.frm) (k + 1) = lateK q.frm (coreF q.frm) k ++ [lateF (q.frm[coreF q.frm + k]) ((coreF q.frm + k : Nat) : Int)] := by rw [lateK, List.getElem?_eq_getElem hkl]
          have hll : (lateK q.frm (coreF q.frm) k).length ≤ k := lateK_len _ _ _
          obtain ⟨c1, hc1⟩ : ∃ c1, c1 = coreF q.frm + k := ⟨_, rfl⟩
          simp only [← hc1] at e13 hkl kl ekw hnx
          simp [e1, e2, e3, e13, hkl]
          refine TDK.callW kl (Dws.self (by simp)) ?_
          cases ol with
          | none =>
            obtain ⟨g0, gx⟩ := gl
            rw [avs_eq_nil] at g0
            rw [g0] at hnx
            have ex : xl.ex = .sl .exact [] := by rcases gx with h | h <;> rw [h] <;> rfl
            simp [e1, e2, e3, e13, hkl, ex]
            refine ⟨k + 1, by omega, by rw [ekw, hc1]; omega, by omega, _, oS, lS, oE, oR, oW, _, some J.length, rfl, hS, ?_⟩
            rw [hnx]
            simp [Gr]
          | some w =>
            obtain ⟨rfl, hw⟩ := gl
            have hwl := (List.getElem?_eq_some_iff.1 hw).1
            simp [e1, e2, e3, e13, hkl, hw]
            refine ⟨⟨by omega, by omega⟩, k + 1, by omega, by rw [ekw, hc1]; omega, by omega, _, oS, lS, oE, oR, oW, _, some w, rfl, hS, ?_⟩
            rw [hnx]
            exact ⟨rfl, by rw [List.getElem?_set_self hwl]; simp⟩
        · have hke : k = q.frm.length - coreF q.frm := by omega
          have hkn : coreF q.frm + k = q.frm.length := by omega
          rw [hke] at gl
          obtain ⟨oL, rfl⟩ := gl.own
          rw [hkn] at e13
          simp [e1, e2, e3, e13]
          exact .agg (.cons (Frz.of_cl2 (by simp)) (.cons (Frz.slosl hS) (.cons (Frz.slN (f := Edg.av)) (.cons (Frz.slN (f := Ex'.av)) (.cons (Frz.slN (f := Lt.av)) (.cons (Frz.slN (f := Ex'.av)) .nil))))))
end Go.Proofs.Ytcjfjoilgnlemaa.PL
