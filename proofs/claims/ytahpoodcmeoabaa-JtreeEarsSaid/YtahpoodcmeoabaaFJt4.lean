/- Trees by their parents: roots, children, depths; and the reference's. -/
import Derived.Test.YtahpoodcmeoabaaFJt3
import Derived.Test.YtahpoodcmeoabaaFGyo8
namespace Go.Proofs.Ytahpoodcmeoabaa.PL
open Go.Proofs
set_option linter.unusedVariables false
set_option linter.unusedSimpArgs false
def rootI (q : List Int) : Int := match q.findIdx? fun x => decide (x = -1) with | some i => (i : Int) | none => -1
theorem T_root (ps : List Int) (hl : ps.length ≤ 1000000) : T Try.prog 18 [.sl .no (ints' ps)] (.int .i64 (rootI (heldI ps))) := by
  have kh := T_held ps hl
  have hql := heldI_len ps
  obtain ⟨n, kn, _, hn⟩ := T_indexI (heldI ps) (-1) (by omega)
  have : rootI (heldI ps) = n := hn.symm
  rw [this]
  refine T.intro (TS.body mix Try.func18 (by kernel_rfl) rfl (by kernel_rfl) (by simp) ?_)
  simp
  refine TS.callW kh (Dws.self (by simp)) ?_
  simp
  refine TS.callW kn (Dws.self (by simp)) ?_
  simp
theorem rootI_at {q : List Int} {i : Nat} (h : i < q.length) (hi : q[i] = -1) (hno : ∀ j (hj : j < q.length), j < i → ¬ q[j] = -1) : rootI q = i := by
  unfold rootI
  have : q.findIdx? (fun x => decide (x = -1)) = some i := by
    rw [List.findIdx?_eq_some_iff_getElem]
    exact ⟨h, by simpa using hi, fun j hj => by simpa using hno j (by omega) hj⟩
  rw [this]
theorem rootI_no {q : List Int} (hno : ∀ j (hj : j < q.length), ¬ q[j] = -1) : rootI q = -1 := by
  unfold rootI
  have : q.findIdx? (fun x => decide (x = -1)) = none := by
    rw [List.findIdx?_eq_none_iff]
    intro x hx
    obtain ⟨j, hj, rfl⟩ := List.getElem_of_mem hx
    simpa using hno j hj
  rw [this]
theorem T_rroot (ps : List Int) (hl : ps.length ≤ 1000000) : T Try.prog 19 [.sl .no (ints' ps)] (.int .i64 (rootI (heldI ps))) := by
  have kh := T_jrheld ps hl
  have hql := heldI_len ps
  generalize heldI ps = q at *
  refine T.intro (TS.body mix Try.func19 (by kernel_rfl) rfl (by kernel_rfl) (by simp) ?_)
  simp
  refine TS.callW kh (Dws.self (by simp)) ?_
  simp
  refine vc_loop (fun i : Nat => q.length - i) (fun i e H => e 3 = .sl .no (ints' q) ∧ e 4 = .int .i64 i ∧ i ≤ q.length ∧ (∀ j (h : j < q.length), j < i → ¬ q[j] = -1)) 0 ?_ ?_
  · simp
  rintro i e H ⟨e3, e4, hi, hno⟩
  by_cases hlt : i < q.length
  · have ew := wrap_next hlt (by omega)
    by_cases c : q[i] = -1
    · rw [rootI_at hlt c hno]
      simp [e3, e4, hlt, c]
    · simp [e3, e4, hlt, c]
      refine ⟨i + 1, by omega, ew, by omega, fun j hj hji => ?_⟩
      rcases Nat.lt_or_ge j i with h2 | h2
      · exact hno j hj h2
      · have : j = i := by omega
        subst this; exact c
  · rw [rootI_no fun j hj => hno j hj (by omega)]
    simp [e3, e4, hlt]
/-- the first m that have a parent -/
def chN (q : List Int) (i : Int) (m : Nat) : List Int := ((List.range m).filter fun k => decide (q.getD k (-1) = i)).map fun (k : Nat) => (k : Int)
theorem chN_next (q : List Int) (i : Int) (m : Nat) : chN q i (m + 1) = chN q i m ++ if q.getD m (-1) = i then [(m : Int)] else [] := by
  unfold chN
  rw [List.range_succ, List.filter_append, List.map_append]
  by_cases h : q.getD m (-1) = i
  · rw [if_pos h]; congr 1; simp only [List.filter_cons, List.filter_nil, h]; rfl
  · rw [if_neg h]; congr 1; simp only [List.filter_cons, List.filter_nil, h]; rfl
theorem chN_len (q : List Int) (i : Int) (m : Nat) : (chN q i m).length ≤ m := by
  unfold chN
  rw [List.length_map]
  exact Nat.le_trans (List.length_filter_le _ _) (by simp)
def chI (q : List Int) (i : Int) : List Int := if 0 ≤ i ∧ i < q.length then chN q i q.length else []
theorem T_children (ps : List Int) (i : Int) (hl : ps.length ≤ 1000000) : T Try.prog 23 [.sl .no (ints' ps), .int .i64 i] (.sl .no (ints' (chI (heldI ps) i))) := by
  have kh := T_held ps hl
  have hql := heldI_len ps
  generalize heldI ps = q at *
  refine T.introF (TS.body mix Try.func23 (by kernel_rfl) rfl (by kernel_rfl) (by simp) ?_)
  simp
  refine TS.callW kh (Dws.self (by simp)) ?_
  by_cases c1 : i < 0
  · have : chI q i = [] := by unfold chI; rw [if_neg (by omega)]
    rw [this]
    simp [c1]
    exact Frz.slN (f := AV.int .i64) (l := [])
  by_cases c2 : (q.length : Int) ≤ i
  · have : chI q i = [] := by unfold chI; rw [if_neg (by omega)]
    rw [this]
    simp [c1, c2]
    exact Frz.slN (f := AV.int .i64) (l := [])
  have : chI q i = chN q i q.length := by unfold chI; rw [if_pos (by omega)]
  rw [this]
  simp [c1, c2]
  refine vc_loop (fun k : Nat => q.length - k) (fun k e H => e 1 = .int .i64 i ∧ e 18 = .sl .no (ints' q) ∧ e 19 = .int .i64 q.length ∧ e 20 = .int .i64 k ∧ k ≤ q.length ∧ Grow1 1 H (e 5) (ints' (chN q i k))) 0 ?_ ?_
  · simp
    exact .inl ⟨rfl, rfl⟩
  rintro k e H ⟨e1, e18, e19, e20, hk, hg⟩
  by_cases hlt : k < q.length
  · have ew := wrap_next hlt (by omega)
    have hnx := chN_next q i k
    have hcl := chN_len q i k
    have hgk : q.getD k (-1) = q[k] := by simp [hlt]
    rw [hgk] at hnx
    by_cases c : q[k] = i
    · rw [if_pos c] at hnx
      rcases hg with ⟨ge, hg⟩ | ⟨t, hg, ht⟩
      · rw [avs_eq_nil] at ge
        simp [e1, e18, e19, e20, hlt, c, hg]
        refine ⟨k + 1, by omega, ew, by omega, ?_⟩
        rw [hnx, ge]
        exact Grow1.first (f := AV.int .i64) (l := []) rfl rfl
      · simp [e1, e18, e19, e20, hlt, c, hg, ht]
        refine ⟨⟨by omega, by omega⟩, k + 1, by omega, ew, by omega, ?_⟩
        rw [hnx]
        exact Grow1.more (f := AV.int .i64) (l := chN q i k) (a := (k : Int)) (n := (chN q i k).length + 1) ht rfl
    · rw [if_neg c, List.append_nil] at hnx
      simp [e1, e18, e19, e20, hlt, c]
      exact ⟨k + 1, by omega, ew, by omega, by rw [hnx]; exact hg⟩
  · have : k = q.length := by omega
    subst this
    simp [e1, e18, e19, e20]
    obtain ⟨own, ho⟩ := hg.own
    rw [ho]
    exact Frz.slN
/-- a tree's parents are nodes of it -/
theorem tree_par {ps : List Int} (h : treeI ps = true) {i : Nat} (hi : i < ps.length) : ps[i] = -1 ∨ (0 ≤ ps[i] ∧ ps[i] < ps.length) := by
  unfold treeI at h
  rw [Bool.and_eq_true, List.all_eq_true] at h
  have h1 := h.1 i (by simpa using hi)
  unfold endOk upI at h1
  rw [decide_eq_true_iff] at h1
  obtain ⟨m, hm⟩ : ∃ m, ps.length = m + 1 := ⟨ps.length - 1, by omega⟩
  have hc : 0 ≤ (i : Int) ∧ (i : Int) < ps.length := ⟨by omega, by omega⟩
  have e1 : ps.getD (i : Int).toNat 0 = ps[i] := by simp [hi]
  rw [hm, upF, if_pos hc, e1] at h1
  cases m with
  | zero =>
    rw [upF] at h1
    simp [hi] at h1
    exact .inl h1
  | succ m =>
    rw [upF] at h1
    split at h1
    · rename_i h2; exact .inr h2
    · simp [hi] at h1
      exact .inl h1
theorem held_par {ps : List Int} {i : Nat} (hi : i < (heldI ps).length) : (heldI ps)[i] = -1 ∨ (0 ≤ (heldI ps)[i] ∧ (heldI ps)[i] < (heldI ps).length) := by
  unfold heldI at hi ⊢
  split at hi
  · rename_i h
    simp only [h, if_true]
    exact tree_par h hi
  · simp at hi
theorem T_rchildren (ps : List Int) (i : Int) (hl : ps.length ≤ 1000000) : T Try.prog 24 [.sl .no (ints' ps), .int .i64 i] (.sl .no (ints' (chI (heldI ps) i))) := by
  have kh := T_jrheld ps hl
  have hql := heldI_len ps
  have hpar : ∀ k (hk : k < (heldI ps).length), (heldI ps)[k] = -1 ∨ (0 ≤ (heldI ps)[k] ∧ (heldI ps)[k] < (heldI ps).length) := fun k hk => held_par hk
  generalize heldI ps = q at *
  refine T.introF (TS.body mix Try.func24 (by kernel_rfl) rfl (by kernel_rfl) (by simp) ?_)
  simp
  refine TS.callW kh (Dws.self (by simp)) ?_
  simp
  refine vc_loop (fun k : Nat => q.length - k) (fun k e H => e 1 = .int .i64 i ∧ e 5 = .sl .no (ints' q) ∧ e 7 = .int .i64 k ∧ k ≤ q.length ∧ Grow1 1 H (e 6) (ints' (if 0 ≤ i ∧ i < q.length then chN q i k else []))) 0 ?_ ?_
  · simp [chN]
    exact .inl ⟨rfl, rfl⟩
  rintro k e H ⟨e1, e5, e7, hk, hg⟩
  by_cases hlt : k < q.length
  · have ew := wrap_next hlt (by omega)
    have hnx := chN_next q i k
    have hcl := chN_len q i k
    have hgk : q.getD k (-1) = q[k] := by simp [hlt]
    have hpk := hpar k hlt
    rw [hgk] at hnx
    by_cases c0 : 0 ≤ i
    · by_cases c : q[k] = i
      · have hr : 0 ≤ i ∧ i < q.length := by omega
        rw [if_pos hr] at hg
        rw [if_pos c] at hnx
        rcases hg with ⟨ge, hg⟩ | ⟨t, hg, ht⟩
        · rw [avs_eq_nil] at ge
          simp [e1, e5, e7, hlt, c0, c, hg]
          refine ⟨k + 1, by omega, ew, by omega, ?_⟩
          rw [if_pos hr.2, hnx, ge]
          exact Grow1.first (f := AV.int .i64) (l := []) rfl rfl
        · simp [e1, e5, e7, hlt, c0, c, hg, ht]
          refine ⟨⟨by omega, by omega⟩, k + 1, by omega, ew, by omega, ?_⟩
          rw [if_pos hr.2, hnx]
          exact Grow1.more (f := AV.int .i64) (l := chN q i k) (a := (k : Int)) (n := (chN q i k).length + 1) ht rfl
      · rw [if_neg c, List.append_nil] at hnx
        simp [e1, e5, e7, hlt, c0, c]
        refine ⟨k + 1, by omega, ew, by omega, ?_⟩
        rw [hnx]
        simpa [c0] using hg
    · have hr : ¬ (0 ≤ i ∧ i < q.length) := by omega
      rw [if_neg hr] at hg
      simp [e1, e5, e7, hlt, c0]
      exact ⟨k + 1, by omega, ew, by omega, hg⟩
  · have : k = q.length := by omega
    subst this
    have : chI q i = if 0 ≤ i ∧ i < q.length then chN q i q.length else [] := rfl
    rw [← this] at hg
    simp [e1, e5, e7]
    obtain ⟨own, ho⟩ := hg.own
    rw [ho]
    exact Frz.slN
theorem T_jdepth (ps : List Int) (i : Int) (hl : ps.length ≤ 1000000) : T Try.prog 25 [.sl .no (ints' ps), .int .i64 i] (.int .i64 ((dpt (heldI ps) i : Int) - 1)) := by
  have kh := T_held ps hl
  have hql := heldI_len ps
  have ku := T_up (heldI ps) i (by omega)
  have hul : (upI (heldI ps) i).length ≤ (heldI ps).length := upF_len _ _
  have ew : IntKind.i64.wrap (((upI (heldI ps) i).length : Int) - 1) = ((upI (heldI ps) i).length : Int) - 1 := wrap_i64 (by omega) (by omega)
  refine T.intro (TS.body mix Try.func25 (by kernel_rfl) rfl (by kernel_rfl) (by simp) ?_)
  simp
  refine TS.callW kh (Dws.self (by simp)) ?_
  simp
  refine TS.callW ku (Dws.self (by simp)) ?_
  simp [ew, dpt]
theorem held_tree {ps : List Int} : TreeOk (heldI ps) := by
  unfold heldI
  by_cases h : treeI ps = true
  · rw [if_pos h]; exact tree_ok h
  · rw [if_neg h]; intro i hi; simp at hi
theorem held_ge {ps : List Int} (x : Nat) (hx : x < (heldI ps).length) : -1 ≤ (heldI ps).getD x (-1) := by
  have h := held_par hx
  have e : (heldI ps).getD x (-1) = (heldI ps)[x] := by simp [hx]
  rw [e]
  omega
/-- more steps tell no more -/
theorem up_stab {q : List Int} (ht : TreeOk q) (hge : ∀ x, x < q.length → -1 ≤ q.getD x (-1)) (i : Int) (m : Nat) (hm : q.length ≤ m) : upF q m i = upI q i := by
  by_cases hc : 0 ≤ i ∧ i < q.length
  · obtain ⟨k, rfl⟩ : ∃ k : Nat, i = k := ⟨i.toNat, by omega⟩
    obtain ⟨U, h1, h2, h3⟩ := ht k (by omega)
    have hU : U.length ≤ q.length := by
      have : (upI q k).length ≤ q.length := upF_len _ _
      rw [h3] at this
      simpa using this
    rw [h3]
    exact up_upF h1 h2 (fun x hx => hge x (h2 x hx)) m (by omega)
  · have : ∀ m, upF q m i = [] := fun m => by cases m with | zero => rfl | succ m => rw [upF, if_neg hc]
    rw [this, upI, this]
theorem T_rdepth (ps : List Int) (i : Int) (hl : ps.length ≤ 1000000) : T Try.prog 26 [.sl .no (ints' ps), .int .i64 i] (.int .i64 ((dpt (heldI ps) i : Int) - 1)) := by
  have kh := T_jrheld ps hl
  have hql := heldI_len ps
  have hst := up_stab (held_tree (ps := ps)) (held_ge (ps := ps)) i ((heldI ps).length + 1) (by omega)
  have hul : (upI (heldI ps) i).length ≤ (heldI ps).length := upF_len _ _
  have hd : dpt (heldI ps) i = (upI (heldI ps) i).length := rfl
  rw [hd]
  generalize heldI ps = q at *
  refine T.intro (TS.body mix Try.func26 (by kernel_rfl) rfl (by kernel_rfl) (by simp) ?_)
  simp
  refine TS.callW kh (Dws.self (by simp)) ?_
  simp
  refine vc_loop (fun n : Nat => q.length + 1 - n) (fun n e H => ∃ (A : List Int) (c : Int), e 1 = .int .i64 c ∧ e 5 = .sl .no (ints' q) ∧ e 6 = .int .i64 ((n : Int) - 1) ∧ A.length = n ∧ n ≤ q.length + 1 ∧ upI q i = A ++ upF q (q.length + 1 - n) c) 0 ?_ ?_
  · exact ⟨[], i, by simp, by simp, by simp, rfl, by omega, by rw [← hst]; simp⟩
  rintro n e H ⟨A, c, e1, e5, e6, hA, hn, hu⟩
  have hAU : A.length ≤ (upI q i).length := by rw [hu]; simp
  have hnl : n < q.length + 1 := by omega
  obtain ⟨m, hm⟩ : ∃ m, q.length + 1 - n = m + 1 := ⟨q.length - n, by omega⟩
  have hm2 : q.length + 1 - (n + 1) = m := by omega
  rw [hm, upF] at hu
  by_cases hc : 0 ≤ c ∧ c < q.length
  · rw [if_pos hc] at hu
    obtain ⟨k, rfl⟩ : ∃ k : Nat, c = k := ⟨c.toNat, by omega⟩
    have hk : k < q.length := by omega
    have hgk : q.getD (k : Int).toNat 0 = q[k] := by simp [hk]
    rw [hgk] at hu
    have hAl : A.length < (upI q i).length := by rw [hu]; simp
    have h2 : (n : Int) - 1 < q.length := by omega
    have ew : IntKind.i64.wrap (n : Int) = (((n + 1 : Nat) : Int) - 1) := by rw [wrap_i64 (by omega) (by omega)]; omega
    simp [e1, e5, e6, hk, h2]
    refine ⟨n + 1, by omega, ew, A ++ [(k : Int)], by simp [hA], by omega, ?_⟩
    rw [hu, hm2]
    simp
  · rw [if_neg hc, List.append_nil] at hu
    have hlen : (upI q i).length = n := by rw [hu, hA]
    rw [hlen]
    by_cases h1 : 0 ≤ c
    · have h2 : ¬ c < q.length := fun h => hc ⟨h1, h⟩
      simp [e1, e5, e6, h1, h2]
    · simp [e1, e5, e6, h1]
theorem held_held (ps : List Int) : heldI (heldI ps) = heldI ps := by
  unfold heldI
  by_cases h : treeI ps = true
  · rw [if_pos h, if_pos h]
  · rw [if_neg h]; split <;> rfl
/-- those of the first m that are so deep -/
def lvN (q : List Int) (d m : Nat) : List Int := ((List.range m).filter fun k => decide (dpt q (k : Nat) = d + 1)).map fun (k : Nat) => (k : Int)
theorem lvN_next (q : List Int) (d m : Nat) : lvN q d (m + 1) = lvN q d m ++ if dpt q (m : Nat) = d + 1 then [(m : Int)] else [] := by
  unfold lvN
  rw [List.range_succ, List.filter_append, List.map_append]
  by_cases h : dpt q (m : Nat) = d + 1
  · rw [if_pos h]; congr 1; simp only [List.filter_cons, List.filter_nil, h]; rfl
  · rw [if_neg h]; congr 1; simp only [List.filter_cons, List.filter_nil, h]; rfl
def lvsN (q : List Int) (n : Nat) : Nat → List Int
  | 0 => []
  | d + 1 => lvsN q n d ++ lvN q d n
theorem lvN_len (q : List Int) (d m : Nat) : (lvN q d m).length ≤ m := by
  unfold lvN
  rw [List.length_map]
  exact Nat.le_trans (List.length_filter_le _ _) (by simp)
theorem lvsN_len (q : List Int) (n d : Nat) : (lvsN q n d).length ≤ d * n := by
  induction d with
  | zero => simp [lvsN]
  | succ d ih =>
    rw [lvsN, List.length_append, Nat.add_mul]
    have := lvN_len q d n
    omega
theorem lvN_mem {q : List Int} {d m : Nat} {x : Int} : x ∈ lvN q d m ↔ ∃ k : Nat, k < m ∧ x = (k : Int) ∧ dpt q (k : Nat) = d + 1 := by
  unfold lvN
  simp only [List.mem_map, List.mem_filter, List.mem_range, decide_eq_true_iff]
  constructor
  · rintro ⟨k, ⟨h1, h2⟩, rfl⟩; exact ⟨k, h1, rfl, h2⟩
  · rintro ⟨k, h1, rfl, h2⟩; exact ⟨k, ⟨h1, h2⟩, rfl⟩
theorem lvsN_mem {q : List Int} {n : Nat} {x : Int} : ∀ {d : Nat}, x ∈ lvsN q n d ↔ ∃ k : Nat, k < n ∧ x = (k : Int) ∧ 1 ≤ dpt q (k : Nat) ∧ dpt q (k : Nat) ≤ d
  | 0 => by
    simp only [lvsN, List.not_mem_nil, false_iff]
    rintro ⟨k, _, _, h1, h2⟩
    omega
  | d + 1 => by
    rw [lvsN, List.mem_append, lvsN_mem, lvN_mem]
    constructor
    · rintro (⟨k, h1, h2, h3, h4⟩ | ⟨k, h1, h2, h3⟩)
      · exact ⟨k, h1, h2, h3, by omega⟩
      · exact ⟨k, h1, h2, by omega, by omega⟩
    · rintro ⟨k, h1, h2, h3, h4⟩
      by_cases h : dpt q (k : Nat) = d + 1
      · exact .inr ⟨k, h1, h2, h⟩
      · exact .inl ⟨k, h1, h2, h3, by omega⟩
theorem lvsN_pw (q : List Int) (n d : Nat) : (lvsN q n d).Pairwise (dleP q) ∧ (lvsN q n d).Nodup := by
  induction d with
  | zero => simp [lvsN]
  | succ d ih =>
    rw [lvsN]
    have hlt : (lvN q d n).Pairwise fun x y => x < y := by
      unfold lvN
      rw [List.pairwise_map]
      exact (List.Pairwise.sublist List.filter_sublist List.pairwise_lt_range).imp fun h => by omega
    constructor
    · rw [List.pairwise_append]
      refine ⟨ih.1, ?_, fun x hx y hy => ?_⟩
      · refine hlt.imp_of_mem fun {a b} ha hb h => ?_
        obtain ⟨k, _, rfl, h1⟩ := lvN_mem.1 ha
        obtain ⟨l, _, rfl, h2⟩ := lvN_mem.1 hb
        unfold dleP
        omega
      · obtain ⟨k, _, rfl, h1, h2⟩ := lvsN_mem.1 hx
        obtain ⟨l, _, rfl, h3⟩ := lvN_mem.1 hy
        unfold dleP
        omega
    · rw [List.nodup_append]
      refine ⟨ih.2, hlt.imp fun h => by omega, fun x hx y hy => ?_⟩
      obtain ⟨k, _, rfl, h1, h2⟩ := lvsN_mem.1 hx
      obtain ⟨l, _, rfl, h3⟩ := lvN_mem.1 hy
      rintro h
      have : k = l := by omega
      subst this
      omega
theorem down_levels (q : List Int) : downI q = lvsN q q.length q.length := by
  refine DownOf.uniq (downI_of q) ⟨?_, (lvsN_pw q q.length q.length).1⟩
  refine (List.perm_ext_iff_of_nodup (lvsN_pw q q.length q.length).2 ((upTo_pw q.length).imp fun h => by omega)).2 fun x => ?_
  rw [lvsN_mem]
  unfold upTo
  rw [List.mem_map]
  constructor
  · rintro ⟨k, h1, rfl, _⟩; exact ⟨k, by simpa using h1, rfl⟩
  · rintro ⟨k, h1, rfl⟩
    have hk : k < q.length := by simpa using h1
    refine ⟨k, hk, rfl, ?_, upF_len _ _⟩
    have := List.length_pos_iff.2 (upI_ne hk)
    unfold dpt
    omega
set_option maxRecDepth 4000 in
theorem T_rdown (ps : List Int) (hl : ps.length ≤ 1000) : T Try.prog 22 [.sl .no (ints' ps)] (.sl .no (ints' (downI (heldI ps)))) := by
  have kh := T_jrheld ps (by omega)
  have hql := heldI_len ps
  have kd := fun i : Int => T_rdepth (heldI ps) i (by omega)
  rw [held_held] at kd
  rw [down_levels]
  generalize heldI ps = q at *
  refine T.introF (TS.body mix Try.func22 (by kernel_rfl) rfl (by kernel_rfl) (by simp) ?_)
  simp
  refine TS.callW kh (Dws.self (by simp)) ?_
  simp
  refine vc_loop (fun d : Nat => q.length - d) (fun d e H => e 3 = .sl .no (ints' q) ∧ e 5 = .int .i64 d ∧ d ≤ q.length ∧ Grow1 1 H (e 4) (ints' (lvsN q q.length d))) 0 ?_ ?_
  · simp
    exact .inl ⟨rfl, rfl⟩
  rintro d e H ⟨e3, e5, hd, hg⟩
  by_cases hdt : d < q.length
  case neg =>
    have : d = q.length := by omega
    subst this
    simp [e3, e5]
    obtain ⟨own, ho⟩ := hg.own
    rw [ho]
    exact Frz.slN
  have ewd := wrap_next hdt (by omega)
  have hvl := lvsN_len q q.length d
  have hvb : d * q.length ≤ 1000 * 1000 := Nat.mul_le_mul (by omega) (by omega)
  simp [e3, e5, hdt]
  refine vc_loop (fun k : Nat => q.length - k) (fun k e H => e 3 = .sl .no (ints' q) ∧ e 5 = .int .i64 d ∧ e 6 = .int .i64 k ∧ k ≤ q.length ∧ Grow1 1 H (e 4) (ints' (lvsN q q.length d ++ lvN q d k))) 0 ?_ ?_
  · simp [e3, e5, lvN]
    exact hg
  clear e3 e5 hg e H
  rintro k e H ⟨e3, e5, e6, hk, hg⟩
  by_cases hlt : k < q.length
  · have ew := wrap_next hlt (by omega)
    have hnx := lvN_next q d k
    have hcl := lvN_len q d k
    simp [e3, e5, e6, hlt]
    refine TS.callW (kd k) (Dws.self (by simp)) ?_
    by_cases c : dpt q (k : Nat) = d + 1
    · have c2 : (dpt q (k : Nat) : Int) - 1 = d := by omega
      rw [if_pos c] at hnx
      rcases hg with ⟨ge, hg⟩ | ⟨t, hg, ht⟩
      · rw [avs_eq_nil] at ge
        simp [e3, e5, e6, hlt, c2, hg]
        refine ⟨k + 1, by omega, ew, by omega, ?_⟩
        rw [hnx, ← List.append_assoc, ge]
        exact Grow1.first (f := AV.int .i64) (l := []) rfl rfl
      · simp [e3, e5, e6, hlt, c2, hg, ht]
        refine ⟨⟨by omega, by omega⟩, k + 1, by omega, ew, by omega, ?_⟩
        rw [hnx, ← List.append_assoc]
        have := Grow1.more (f := AV.int .i64) (l := lvsN q q.length d ++ lvN q d k) (a := (k : Int)) (n := (lvsN q q.length d ++ lvN q d k).length + 1) ht rfl
        simpa using this
    · have c2 : ¬ (dpt q (k : Nat) : Int) - 1 = d := by omega
      rw [if_neg c, List.append_nil] at hnx
      simp [e3, e5, e6, hlt, c2]
      exact ⟨k + 1, by omega, ew, by omega, by rw [hnx]; exact hg⟩
  · have : k = q.length := by omega
    subst this
    simp [e3, e5, e6]
    exact ⟨d + 1, by omega, ewd, by omega, hg⟩
end Go.Proofs.Ytahpoodcmeoabaa.PL
