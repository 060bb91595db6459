/- Any node may be the root. -/
import Derived.Test.YtahpoodcmeoabaaFJtP
import Derived.Test.YtahpoodcmeoabaaFMu21
import Derived.Test.YtahpoodcmeoabaaFGyo5
namespace Go.Proofs.Ytahpoodcmeoabaa.PL
open Go.Proofs
set_option linter.unusedVariables false
set_option linter.unusedSimpArgs false
def chkP (h : List (List Int)) (ps : List Int) : Prop := treeI ps = true ∧ h.length = ps.length ∧ checkP h ps
noncomputable def chkI (h : List (List Int)) (ps : List Int) : Bool := @decide (chkP h ps) (Classical.propDecidable _)
theorem chkI_iff {h : List (List Int)} {ps : List Int} : chkI h ps = true ↔ chkP h ps := by unfold chkI; simp
theorem chkI_no {h : List (List Int)} {ps : List Int} (hn : ¬ chkP h ps) : chkI h ps = false := by unfold chkI; simp [hn]
theorem pathQ_len {ps : List Int} {a b : Int} : (pathQ (upI ps a) (upI ps b)).length ≤ 2 * ps.length := by
  have h1 : (upI ps a).length ≤ ps.length := upF_len _ _
  have h2 : (upI ps b).length ≤ ps.length := upF_len _ _
  unfold pathQ
  split
  · simp
  · rw [List.length_append, List.length_reverse, List.length_take, List.length_take]
    omega
theorem pathQ_mem {x y : List Int} {v : Int} (h : v ∈ pathQ x y) : v ∈ x ∨ v ∈ y := by
  unfold pathQ at h
  split at h
  · cases h
  · rw [List.mem_append, List.mem_reverse] at h
    rcases h with h | h
    · exact .inl (List.mem_of_mem_take h)
    · exact .inr (List.mem_of_mem_take h)
set_option maxRecDepth 4000 in
theorem T_check (h : List (List Int)) (ps : List Int) (hh : HsOk h) (hl : ps.length ≤ 1000000) : T Try.prog 32 [.sl .no (lists' h), .sl .no (ints' ps)] (.bool (chkI h ps)) := by
  have hn := hh.n
  have hs := hh.s
  have kt := T_jright ps hl
  refine T.intro (TS.body mix Try.func32 (by kernel_rfl) rfl (by kernel_rfl) (by simp) ?_)
  cases c2 : treeI ps with
  | false =>
    rw [c2] at kt
    rw [chkI_no fun hq => by have := hq.1; rw [c2] at this; cases this]
    simp
    refine TS.callW kt (Dws.self (by simp)) ?_
    simp
  | true =>
  rw [c2] at kt
  by_cases c1 : h.length = ps.length
  case neg =>
    have c3 : ¬ (h.length : Int) = ps.length := by omega
    rw [chkI_no fun hq => c1 hq.2.1]
    simp
    refine TS.callW kt (Dws.self (by simp)) ?_
    simp [c3]
  have hheld : heldI ps = ps := by unfold heldI; rw [if_pos c2]
  simp
  refine TS.callW kt (Dws.self (by simp)) ?_
  simp [c1]
  let ok : Nat → Nat → Prop := fun a b => ∀ x, x ∈ pathQ (upI ps a) (upI ps b) → withinI (sharedI (h.getD a []) (h.getD b [])) (h.getD x.toNat []) = true
  refine vc_loop (fun a : Nat => h.length - a) (fun a e H => e 0 = .sl .no (lists' h) ∧ e 1 = .sl .no (ints' ps) ∧ e 5 = .bool true ∧ e 22 = .int .i64 h.length ∧ e 23 = .int .i64 a ∧ a ≤ h.length ∧ ∀ a' b, a' < a → b < a' → ok a' b) 0 ?_ ?_
  · simp [c1]
  rintro a e H ⟨e0, e1, e5, e22, e23, ha, hA⟩
  by_cases hat : a < h.length
  case neg =>
    have : a = h.length := by omega
    subst this
    rw [chkI_iff.2 ⟨c2, c1, fun a b h1 h2 => hA a b (by omega) h2⟩]
    simp [e0, e1, e5, e22, e23]
  have ewa := wrap_next hat (by omega)
  simp [e0, e1, e5, e22, e23, hat]
  refine vc_loop (fun b : Nat => a - b) (fun b e H => e 0 = .sl .no (lists' h) ∧ e 1 = .sl .no (ints' ps) ∧ e 5 = .bool true ∧ e 6 = .int .i64 a ∧ e 22 = .int .i64 h.length ∧ e 23 = .int .i64 a ∧ e 26 = .int .i64 a ∧ e 27 = .int .i64 b ∧ b ≤ a ∧ ∀ b', b' < b → ok a b') 0 ?_ ?_
  · simp [e0, e1, e5, e22, e23]
  clear e0 e1 e5 e22 e23 e H
  rintro b e H ⟨e0, e1, e5, e6, e22, e23, e26, e27, hb, hB⟩
  by_cases hbt : b < a
  case neg =>
    have : b = a := by omega
    subst this
    simp [e0, e1, e5, e6, e22, e23, e26, e27]
    refine ⟨b + 1, by omega, ewa, by omega, fun a' b' h1 h2 => ?_⟩
    rcases Nat.lt_or_ge a' b with h4 | h4
    · exact hA a' b' h4 h2
    · have : a' = b := by omega
      subst this
      exact hB b' h2
  have ewb := wrap_next hbt (by omega)
  have hbh : b < h.length := by omega
  have hsa := hs _ (List.getElem_mem hat)
  have hsb := hs _ (List.getElem_mem hbh)
  have ksh := T_shared h[a] h[b] (by omega) (by omega)
  have hsl := sharedI_len h[a] h[b]
  have kp := T_path ps a b hl
  rw [hheld] at kp
  have hpl := pathQ_len (ps := ps) (a := a) (b := b)
  have hpm : ∀ x, x ∈ pathQ (upI ps a) (upI ps b) → 0 ≤ x ∧ x < ps.length := fun x hx => by
    rcases pathQ_mem hx with h | h
    · exact upF_mem h
    · exact upF_mem h
  have hok : ok a b ↔ ∀ x, x ∈ pathQ (upI ps a) (upI ps b) → withinI (sharedI h[a] h[b]) (h.getD x.toNat []) = true := by
    simp [ok, hat, hbh]
  generalize pathQ (upI ps a) (upI ps b) = L at *
  simp [e0, e1, e5, e6, e22, e23, e26, e27, hbt, hat, hbh]
  refine TDK.callW ksh (Dws.self (by simp)) ?_
  simp [e0, e1, e5, e6, e22, e23, e26, e27, hbt, hat, hbh]
  refine TS.callW kp (Dws.self (by simp)) ?_
  simp [e0, e1, e5, e6, e22, e23, e26, e27, hbt, hat, hbh]
  refine vc_loop (fun k : Nat => L.length - k) (fun k e H => e 0 = .sl .no (lists' h) ∧ e 1 = .sl .no (ints' ps) ∧ e 5 = .bool true ∧ e 6 = .int .i64 a ∧ e 22 = .int .i64 h.length ∧ e 23 = .int .i64 a ∧ e 26 = .int .i64 a ∧ e 27 = .int .i64 b ∧ e 8 = .sl .no (ints' (sharedI h[a] h[b])) ∧ e 42 = .sl .no (ints' L) ∧ e 43 = .int .i64 L.length ∧ e 44 = .int .i64 k ∧ k ≤ L.length ∧ ∀ j (hj : j < L.length), j < k → withinI (sharedI h[a] h[b]) (h.getD (L[j]).toNat []) = true) 0 ?_ ?_
  · simp [e0, e1, e5, e6, e22, e23, e26, e27]
  clear e0 e1 e5 e6 e22 e23 e26 e27 e H
  rintro k e H ⟨e0, e1, e5, e6, e22, e23, e26, e27, e8, e42, e43, e44, hk, hK⟩
  by_cases hkt : k < L.length
  case neg =>
    have : k = L.length := by omega
    subst this
    simp [e0, e1, e5, e6, e22, e23, e26, e27, e8, e42, e43, e44]
    refine ⟨b + 1, by omega, ewb, by omega, fun b' h1 => ?_⟩
    rcases Nat.lt_or_ge b' b with h4 | h4
    · exact hB b' h4
    · have : b' = b := by omega
      subst this
      exact hok.2 fun x hx => by
        obtain ⟨j, hj, rfl⟩ := List.getElem_of_mem hx
        exact hK j hj hj
  have ewk := wrap_next hkt (by omega)
  have hm := hpm _ (List.getElem_mem hkt)
  obtain ⟨m, hm2⟩ : ∃ m : Nat, L[k] = (m : Int) := ⟨(L[k]).toNat, by omega⟩
  have hmh : m < h.length := by omega
  have hsm := hs _ (List.getElem_mem hmh)
  have kw := T_within (sharedI h[a] h[b]) h[m] (by omega) (by omega)
  have hgm : h.getD (L[k]).toNat [] = h[m] := by rw [hm2]; simp [hmh]
  simp [e0, e1, e5, e6, e22, e23, e26, e27, e8, e42, e43, e44, hkt, hm2, hmh]
  refine TS.callW kw (Dws.self (by simp)) ?_
  cases g2 : withinI (sharedI h[a] h[b]) h[m] with
  | true =>
    simp [e0, e1, e5, e6, e22, e23, e26, e27, e8, e42, e43, e44, hkt, hm2, hmh]
    refine ⟨k + 1, by omega, ewk, by omega, fun j hj hjk => ?_⟩
    rcases Nat.lt_or_ge j k with h4 | h4
    · simpa using hK j hj h4
    · have : j = k := by omega
      subst this
      have := hgm.symm ▸ g2
      simpa using this
  | false =>
    have : chkI h ps = false := chkI_no fun hc => by
      have := hc.2.2 a b (by omega) hbt
      have h2 := hok.1 (fun x hx => this x (by assumption)) _ (List.getElem_mem hkt)
      rw [hgm, g2] at h2
      cases h2
    rw [this]
    simp [e0, e1, e5, e6, e22, e23, e26, e27, e8, e42, e43, e44, hkt, hm2, hmh]
def nearI (ps : List Int) (a b : Nat) : Bool := decide (ps.getD a (-1) = b) || decide (ps.getD b (-1) = a)
theorem T_near (ps : List Int) (a b : Nat) (ha : a < ps.length) (hb : b < ps.length) (hl : ps.length ≤ 1000000) : T Try.prog 31 [.sl .no (ints' ps), .int .i64 a, .int .i64 b] (.bool (nearI ps a b)) := by
  refine T.intro (TS.body mix Try.func31 (by kernel_rfl) rfl (by kernel_rfl) (by simp) ?_)
  have a0 : ¬ (a : Int) < 0 := by omega
  have a1 : ¬ ps.length ≤ a := by omega
  have b0 : ¬ (b : Int) < 0 := by omega
  have b1 : ¬ ps.length ≤ b := by omega
  unfold nearI
  simp [a0, a1, b0, b1, ha, hb]
theorem Wk.congrX {N M : Nat → Nat → Prop} {X : Nat → Prop} (hs : ∀ a b, X a → X b → N a b → M a b) {a b : Nat} (h : Wk N X a b) : Wk M X a b := by
  induction h with
  | refl h => exact .refl h
  | step h e t ih => exact .step h (hs _ _ h t.head e) ih
theorem near_iff {ps : List Int} (hge : ∀ x, x < ps.length → -1 ≤ ps.getD x (-1)) {a b : Nat} (ha : a < ps.length) (hb : b < ps.length) : nearI ps a b = true ↔ nbr (fOf ps) a b := by
  have key : ∀ a b : Nat, a < ps.length → (ps.getD a (-1) = (b : Int) ↔ fOf ps a = some b) := by
    intro a b ha
    have := hge a ha
    unfold fOf
    constructor
    · intro h
      rw [h, if_neg (by omega)]
      simp
    · intro h
      split at h
      · cases h
      · simp only [Option.some.injEq] at h
        omega
  unfold nearI nbr
  rw [Bool.or_eq_true, decide_eq_true_iff, decide_eq_true_iff, key a b ha, key b a hb]
theorem tree_ge {ps : List Int} (h : treeI ps = true) (x : Nat) (hx : x < ps.length) : -1 ≤ ps.getD x (-1) := by
  have h2 := tree_par h hx
  have e : ps.getD x (-1) = ps[x] := by simp [hx]
  rw [e]
  omega
theorem rer_near {ps q : List Int} {r : Nat} (h : Rer ps q r) (htr : treeI ps = true) {a b : Nat} (ha : a < ps.length) (hb : b < ps.length) : nearI q a b = nearI ps a b := by
  have hl := h.len
  rw [Bool.eq_iff_iff, near_iff (tree_ge htr) ha hb, near_iff (tree_ge h.tree) (by omega) (by omega)]
  exact h.same a b ha hb
theorem rer_chk {ps q : List Int} {r : Nat} (hr : Rer ps q r) (htr : treeI ps = true) (h : List (List Int)) : chkI h q = chkI h ps := by
  have hl := hr.len
  rw [Bool.eq_iff_iff, chkI_iff, chkI_iff]
  unfold chkP
  by_cases c : h.length = ps.length
  · have c2 : h.length = q.length := by omega
    rw [check_conn htr c.symm, check_conn hr.tree c2.symm]
    have hx : ∀ {v : Int} {k : Nat}, vx h k v → k < ps.length := fun hv => by have := vx_lt hv; omega
    constructor
    · rintro ⟨_, _, h3⟩
      exact ⟨htr, c, fun v a b ha hb => (h3 v a b ha hb).congrX fun x y hx1 hy1 e => (hr.same x y (hx hx1) (hx hy1)).1 e⟩
    · rintro ⟨_, _, h3⟩
      exact ⟨hr.tree, c2, fun v a b ha hb => (h3 v a b ha hb).congrX fun x y hx1 hy1 e => (hr.same x y (hx hx1) (hx hy1)).2 e⟩
  · have c2 : ¬ h.length = q.length := by omega
    exact ⟨fun h => absurd h.2.1 c2, fun h => absurd h.2.1 c⟩
theorem rer_root {ps q : List Int} {r : Nat} (h : Rer ps q r) (hr : r < ps.length) : rootI (heldI q) = r := by
  have hh : heldI q = q := by unfold heldI; rw [if_pos h.tree]
  have hl := h.len
  rw [hh]
  exact rootI_at (by omega) ((h.root r (by omega)).2 rfl) fun j hj hjr e => by have := (h.root j hj).1 e; omega
set_option maxRecDepth 4000 in
theorem T_JtreeRoots (h : List (List Int)) (ps : List Int) (r : Int) (hn0 : h.length < 4611686018427387904) (hs0 : ∀ l, l ∈ h → l.length < 4611686018427387904) (hl0 : ps.length < 4611686018427387904) : T Try.prog 4 [.sl .no (lists' h), .sl .no (ints' ps), .int .i64 r] (.bool true) := by
  have km := T_much21 h hn0 hs0
  refine T.intro (TS.body mix Try.func4 (by kernel_rfl) rfl (by kernel_rfl) (by simp) ?_)
  simp
  refine TS.callW km (Dws.self (by simp)) ?_
  cases hm : muchG h with
  | true =>
    simp
    refine TS.callW T_live23 .nil ?_
    simp
  | false =>
  by_cases hb : (30 : Int) < ps.length
  · simp [hb]
    refine TS.callW T_live23 .nil ?_
    simp
  have hh := much_ok hm
  have k1 := T_rooted ps r (by omega)
  have k2 := T_rtree ps (by omega)
  simp [hb]
  refine TS.callW k1 (Dws.self (by simp)) ?_
  simp
  refine TS.callW k2 (Dws.self (by simp)) ?_
  cases htr : treeI ps with
  | false =>
    have : rerootI (heldI ps) r = [] := by unfold heldI; rw [htr]; rfl
    rw [this]
    simp
    refine GTK.callW (fun _ => ⟨T_live23, .nil⟩) ?_
    simp
  | true =>
  have hheld : heldI ps = ps := by unfold heldI; rw [if_pos htr]
  rw [hheld]
  by_cases hr : 0 ≤ r ∧ r < ps.length
  case neg =>
    have hup : upI ps r = [] := by
      have : ∀ m, upF ps m r = [] := fun m => by cases m with | zero => rfl | succ m => rw [upF, if_neg hr]
      exact this _
    have : rerootI ps r = ps := by unfold rerootI; rw [hup]; rfl
    rw [this]
    have ks := T_sameList21 ps ps (by omega)
    simp at ks
    by_cases h1 : r < 0
    · simp [h1]
      refine TS.callW ks (Dws.self (by simp)) ?_
      simp
      refine GTK.callW (fun _ => ⟨T_live23, .nil⟩) ?_
      simp
    · have h2 : (ps.length : Int) ≤ r := by omega
      simp [h1, h2]
      refine TS.callW ks (Dws.self (by simp)) ?_
      simp
      refine GTK.callW (fun _ => ⟨T_live23, .nil⟩) ?_
      simp
  obtain ⟨k, rfl⟩ : ∃ k : Nat, r = k := ⟨r.toNat, by omega⟩
  have hk : k < ps.length := by omega
  have hR := rer_ok htr hk
  have hlen := hR.len
  have hroot := rer_root hR hk
  have hchk := rer_chk hR htr h
  have hnear := fun a b ha hb => rer_near hR htr (a := a) (b := b) ha hb
  have htq := hR.tree
  generalize rerootI ps k = q at *
  have k3 := T_rtree q (by omega)
  have k4 := T_rroot q (by omega)
  have k5 := T_root q (by omega)
  rw [htq] at k3
  rw [hroot] at k4 k5
  have k6 := T_check h q hh (by omega)
  have k7 := T_check h ps hh (by omega)
  rw [hchk] at k6
  have hk0 : ¬ (k : Int) < 0 := by omega
  have hk1 : ¬ ps.length ≤ k := by omega
  simp [hk0, hk1, hlen]
  refine GTK.callW (fun _ => ⟨k3, Dws.self (by simp)⟩) ?_
  simp
  refine GTK.callW (fun _ => ⟨k4, Dws.self (by simp)⟩) ?_
  simp
  refine GTK.callW (fun _ => ⟨k5, Dws.self (by simp)⟩) ?_
  simp
  refine vc_loop (fun a : Nat => q.length - a) (fun a e H => e 0 = .sl .no (lists' h) ∧ e 1 = .sl .no (ints' ps) ∧ e 7 = .sl .no (ints' q) ∧ e 8 = .int .i64 a ∧ a ≤ q.length) 0 ?_ ?_
  · simp
  rintro a e H ⟨e0, e1, e7, e8, ha⟩
  by_cases hat : a < q.length
  case neg =>
    have : a = q.length := by omega
    subst this
    simp [e0, e1, e7, e8]
    refine TS.callW k6 (Dws.self (by simp)) ?_
    simp [e0, e1, e7, e8]
    refine TS.callW k7 (Dws.self (by simp)) ?_
    simp [e0, e1, e7, e8]
    refine GTK.callW (fun _ => ⟨T_live23, .nil⟩) ?_
    simp
  have ewa := wrap_next hat (by omega)
  simp [e0, e1, e7, e8, hat]
  refine vc_loop (fun b : Nat => q.length - b) (fun b e H => e 0 = .sl .no (lists' h) ∧ e 1 = .sl .no (ints' ps) ∧ e 7 = .sl .no (ints' q) ∧ e 8 = .int .i64 a ∧ e 9 = .int .i64 b ∧ b ≤ q.length) 0 ?_ ?_
  · simp [e0, e1, e7, e8]
  clear e0 e1 e7 e8 e H
  rintro b e H ⟨e0, e1, e7, e8, e9, hb2⟩
  by_cases hbt : b < q.length
  case neg =>
    simp [e0, e1, e7, e8, e9, hbt]
    exact ⟨a + 1, by omega, ewa, by omega⟩
  have ewb := wrap_next hbt (by omega)
  have n1 := T_near q a b hat hbt (by omega)
  have n2 := T_near ps a b (by omega) (by omega) (by omega)
  rw [hnear a b (by omega) (by omega)] at n1
  simp [e0, e1, e7, e8, e9, hbt]
  refine TS.callW n1 (Dws.self (by simp)) ?_
  simp [e0, e1, e7, e8, e9, hbt]
  refine TS.callW n2 (Dws.self (by simp)) ?_
  simp [e0, e1, e7, e8, e9, hbt]
  exact ⟨b + 1, by omega, ewb, by omega⟩
theorem S_JtreeRoots {xs : List AV} (h : ShA Try.prog [32, 22, 3] xs) : T Try.prog 4 xs (.bool true) := by
  obtain ⟨y, r, rfl, h0, h⟩ := h.cons_of ag_32
  obtain ⟨y, r, rfl, h1, h⟩ := h.cons_of ag_22
  obtain ⟨y, r, rfl, h2, h⟩ := h.cons_of ag_3
  obtain rfl := h.nil_of
  obtain ⟨a, rfl, ha, hb⟩ := lists_in h0
  obtain ⟨l, rfl, _, hl⟩ := ints_in h1
  obtain ⟨v, rfl, _⟩ := h2.int_of un_3
  exact T_JtreeRoots a l v ha hb hl
end Go.Proofs.Ytahpoodcmeoabaa.PL
