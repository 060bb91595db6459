/- Which pipes may go on: the program. -/
import Derived.Test.YtgmhmdmfnmlhmabFReady
namespace Go.Proofs.Ytgmhmdmfnmlhmab.PL
open Go.Proofs
set_option linter.unusedVariables false
set_option linter.unusedSimpArgs false
theorem S_ready1 (H : List HO) (b : Nat) (d : List Bool) (i : Int) (hb : H[b]? = some (.box [.sl .no (bools' d)])) (hl : d.length < 4611686018427387904) (hi : 0 ≤ i) :
    TS Try.prog 89 [.int .i64 i, .ptr b 0] H (pt (.bool (isD d i)) H) := by
  refine TS.body mix Try.func89 (by kernel_rfl) rfl (by kernel_rfl) (by simp) ?_
  obtain ⟨k, rfl⟩ : ∃ k : Nat, i = k := ⟨i.toNat, by omega⟩
  by_cases hk : k < d.length
  · simp [hb, hk, isD_nat hk]
  · have : isD d k = false := by unfold isD; simp; omega
    simp [hb, hk, this, -ifAV]
theorem S_met1 (H : List HO) (pb fb : Nat) (p : Plan) (f : FuncId) (caps : List AV) (n : Int) (q : Int → Bool) (hp : PlanIn p) (h1 : H[pb]? = some (.box p.cs)) (h2 : H[fb]? = some (.box [.fn (.func f) [] caps]))
    (hq : 0 ≤ n → n < p.pipes.length → TS Try.prog f (.int .i64 n :: caps) H (pt (.bool (q n)) H)) :
    TS Try.prog 114 [.int .i64 n, .ptr pb 0, .ptr fb 0] H (pt (.bool (decide (n < 0) || decide ((p.pipes.length : Int) ≤ n) || !q n)) H) := by
  refine TS.body mix Try.func114 (by kernel_rfl) rfl (by kernel_rfl) (by simp) ?_
  simp [h1, h2]
  refine ⟨by omega, GTK.inv (r := .bool (q n)) (fun H' => H' = H) (fun hg => ?_) rfl ?_⟩
  · simp at hg
    exact hq (by omega) (by omega)
  · rintro H' rfl
    simp [h1, h2]
    intro a b
    exact ⟨a, b⟩
set_option maxRecDepth 4000 in
theorem S_met (H : List HO) (p : Plan) (f : FuncId) (caps : List AV) (t : Nat) (q : Int → Bool) (hp : PlanIn p) (ht : t < p.pipes.length)
    (hq : ∀ (n : Int) (L : List HO), 0 ≤ n → n < p.pipes.length → TS Try.prog f (.int .i64 n :: caps) (H ++ L) (pt (.bool (q n)) (H ++ L))) :
    TS Try.prog 90 [p.av, .int .i64 t, .fn (.func f) [] caps] H (pt (.bool ((p.pipes[t].needs).all fun n => decide (0 ≤ n) && decide (n < p.pipes.length) && q n)) H) := by
  refine TS.dropH ?_ rfl
  refine TS.body mix Try.func90 (by kernel_rfl) rfl (by kernel_rfl) (by simp) ?_
  simp [ht]
  have hc := S_containsFunc (H ++ [.box p.cs, .box [.fn (.func f) [] caps]]) 114 [.ptr H.length 0, .ptr (H.length + 1) 0] p.pipes[t].needs (fun n => decide (n < 0) || decide ((p.pipes.length : Int) ≤ n) || !q n) (hp.2 _ (List.getElem_mem ht)) fun n hn =>
    S_met1 _ _ _ p f caps n q hp (by simp) (by simp) fun a b => hq n _ a b
  refine TS.pt hc ?_
  simp
  rw [List.not_all_eq_any_not]
  congr 1
  funext n
  rw [Bool.eq_iff_iff]
  simp
set_option maxRecDepth 4000 in
theorem T_ready (p : Plan) (d : List Bool) (t : Int) (hl : d.length < 4611686018427387904) (hp : PlanIn p) : T Try.prog 42 [p.av, .sl .no (bools' d), .int .i64 t] (.bool (readyN p.ns (isD d) t)) := by
  refine T.intro (TS.body mix Try.func42 (by kernel_rfl) rfl (by kernel_rfl) (by simp) ?_)
  simp
  refine ⟨by omega, GTK.inv (r := .bool (isD d t)) (fun H' => H' = [.box p.cs, .box [.sl .no (bools' d)]]) (fun hg => ?_) rfl ?_⟩
  · simp at hg
    exact S_ready1 _ 1 d t (by simp) hl hg.1
  rintro H' rfl
  simp
  refine ⟨by grind, by grind, GTK.inv (r := .bool ((p.ns.getD t.toNat []).all fun n => decide (0 ≤ n) && decide (n < p.pipes.length) && isD d n)) (fun H' => H' = [.box p.cs, .box [.sl .no (bools' d)]]) (fun hg => ?_) rfl ?_⟩
  · simp at hg
    obtain ⟨k, rfl⟩ : ∃ k : Nat, t = k := ⟨t.toNat, by omega⟩
    have hk : k < p.pipes.length := by omega
    have := S_met [.box p.cs, .box [.sl .no (bools' d)]] p 89 [.ptr 1 0] k (isD d) hp hk fun n L a b => S_ready1 _ 1 d n (by simp) hl a
    rw [← p.ns_get hk] at this
    exact this
  rintro H' rfl
  simp
  unfold readyN
  rw [p.ns_len]
  simp [Bool.and_assoc]
theorem T_rdall (p : Plan) (d : List Bool) (hl : d.length < 4611686018427387904) (hp : PlanIn p) (hs : p.pipes.length ≤ 1000) :
    T Try.prog 45 [p.av, .sl .no (bools' d)] (slA natA (readyL p.ns (isD d) p.pipes.length)) := by
  refine T.intro (TS.body mix Try.func45 (by kernel_rfl) rfl (by kernel_rfl) (by simp) ?_)
  simp
  refine vc_loop (fun i : Nat => p.pipes.length - i) (fun i e H => ∃ J : List HO, e 1 = .sl .no (bools' d) ∧ e 2 = .ptr 0 0 ∧ e 9 = .int .i64 p.pipes.length ∧ e 10 = .int .i64 i ∧ i ≤ p.pipes.length ∧ GrowK 1 1 J (e 5) (nats' (readyL p.ns (isD d) i)) ∧ H = .box p.cs :: J) 0 ?_ ?_
  · exact ⟨[], by simp [GrowK, readyL]⟩
  rintro i e H ⟨J, e1, e2, e9, e10, hi, hg, rfl⟩
  by_cases hlt : i < p.pipes.length
  · have ew := wrap_next hlt (by omega)
    have hr := T_ready p d i hl hp
    have hs := readyL_succ (ns := p.ns) (q := isD d) (k := i)
    have hle := readyL_len (ns := p.ns) (q := isD d) (k := i)
    generalize readyL p.ns (isD d) i = L at *
    simp [e1, e2, e9, e10, hlt]
    refine TS.call' hr (by simp) ?_
    simp [e1, e2, e9, e10, hlt]
    refine condK_of (fun q => ?_) (fun q => ?_)
    · rw [if_pos q] at hs
      rcases hg with ⟨ge, hg⟩ | ⟨t, hg, ht⟩
      · rw [avs_eq_nil] at ge
        simp [e1, e2, e9, e10, hlt, hg]
        refine ⟨i + 1, by omega, ew, by omega, ?_⟩
        rw [hs]
        exact GrowK.first (f := natA) ge (by simp)
      · have ht' : J[t]? = some (.spare L.length 1) := by simpa using ht
        simp [e1, e2, e9, e10, hlt, hg, ht']
        refine ⟨by omega, i + 1, by omega, ew, by omega, ?_⟩
        rw [hs]
        exact GrowK.more (f := natA) ht rfl
    · rw [if_neg (by simp [q])] at hs
      simp [e1, e2, e9, e10, hlt]
      exact ⟨i + 1, by omega, ew, by omega, by rw [hs]; exact hg⟩
  · have : i = p.pipes.length := by omega
    subst this
    obtain ⟨own, hg⟩ := hg.own
    simp [e1, e2, e9, e10, hg]
theorem S_gone (H : List HO) (b id : Nat) (m : List (Int × Int)) (c : Option Nat) (i : Int) (hb : H[b]? = some (.box [.map id])) (hm : H[id]? = some (.mp (mpA (AV.int .i64) (AV.int .i64) m) c)) :
    TS Try.prog 92 [.int .i64 i, .ptr b 0] H (pt (.bool (getL i m).isNone) H) := by
  refine TS.body mix Try.func92 (by kernel_rfl) rfl (by kernel_rfl) (by simp) ?_
  simp [hb, hm, keys_int, found_mpA, -foundV]
  cases getL i m <;> simp
theorem mpA_erase {κ β : Type} {kf : κ → AV} {g : β → AV} : ∀ {l : List (κ × β)} {j : Nat}, (mpA kf g l).eraseIdx j = mpA kf g (l.eraseIdx j)
  | [], j => by simp [mpA]
  | a :: l, 0 => by simp [mpA]
  | a :: l, j + 1 => by
    have := mpA_erase (kf := kf) (g := g) (l := l) (j := j)
    simpa [mpA] using this
/-- at first all are left -/
def leftN (ns : List (List Int)) (k : Nat) : List (Int × Int) := (List.range k).map fun (t : Nat) => ((t : Int), ((ns.getD t []).length : Int))
theorem leftN_keys {ns : List (List Int)} {k : Nat} : ((leftN ns k).map Prod.fst).Nodup := by
  unfold leftN
  rw [List.map_map]
  refine List.Pairwise.map _ (fun (a b : Nat) (h : a ≠ b) => ?_) List.nodup_range
  simp only [Function.comp]
  omega
theorem leftN_mem {ns : List (List Int)} {k : Nat} {i : Int} : i ∈ (leftN ns k).map Prod.fst ↔ 0 ≤ i ∧ i < k := by
  unfold leftN
  simp only [List.map_map, List.mem_map, List.mem_range, Function.comp]
  exact ⟨fun ⟨a, h, e⟩ => by omega, fun h => ⟨i.toNat, by omega, by omega⟩⟩
theorem leftN_none {ns : List (List Int)} {k : Nat} {i : Int} : (getL i (leftN ns k)).isNone = !(decide (0 ≤ i) && decide (i < k)) := by
  rw [Bool.eq_iff_iff, Option.isNone_iff_eq_none, getL_none_iff, leftN_mem]
  simp
  omega
theorem leftN_succ {ns : List (List Int)} {k : Nat} : putL (k : Int) ((ns.getD k []).length : Int) (leftN ns k) = leftN ns (k + 1) := by
  rw [putL_none (by rw [getL_none_iff, leftN_mem]; omega)]
  unfold leftN
  rw [List.range_succ, List.map_append]; rfl
set_option maxRecDepth 4000 in
theorem T_order33 (p : Plan) (hp : PlanIn p) (hs : p.pipes.length ≤ 1000) : T Try.prog 47 [p.av] (slA natA (order33 p.ns)) := by
  have hnl := p.ns_len
  obtain ⟨n, hn⟩ : ∃ n, n = p.pipes.length := ⟨_, rfl⟩
  refine T.intro (TS.body mix Try.func47 (by kernel_rfl) rfl (by kernel_rfl) (by simp) ?_)
  simp
  rw [← hn]
  refine vc_loop (fun k : Nat => n - k) (fun k e H => e 1 = .ptr 0 0 ∧ e 3 = .ptr 2 0 ∧ e 11 = .int .i64 n ∧ e 12 = .int .i64 k ∧ k ≤ n ∧ H = [.box p.cs, .mp (mpA (AV.int .i64) (AV.int .i64) (leftN p.ns k)) (some 0), .box [.map 1]]) 0 ?_ ?_
  · simp [leftN, mpA]
  rintro k e H ⟨e1, e3, e11, e12, hk, rfl⟩
  by_cases hlt : k < n
  · have ew := wrap_next hlt (by omega)
    have hlt' : k < p.pipes.length := by omega
    have hpt := @leftN_succ p.ns k
    rw [p.ns_get hlt'] at hpt
    have hput : putK (.int .i64 (k : Int)) (.int .i64 (p.pipes[k].needs.length : Int)) (mpA (AV.int .i64) (AV.int .i64) (leftN p.ns k)) = mpA (AV.int .i64) (AV.int .i64) (leftN p.ns (k + 1)) := by rw [← hpt]; exact putK_mpA
    simp [e1, e3, e11, e12, hlt, hlt', keys_int, hput]
    exact ⟨k + 1, by omega, ew, by omega, rfl⟩
  have : k = n := by omega
  subst this
  simp [e1, e3, e11, e12, ← hn]
  clear e11 e12 hlt hk
  refine vc_loop (fun i : Nat => k - i) (fun i e H => ∃ (J : List HO) (D : List Nat) (m : List (Int × Int)) (c : Option Nat), e 1 = .ptr 0 0 ∧ e 3 = .ptr 2 0 ∧ e 5 = .fn (.func 92) [] [.ptr 2 0] ∧ GrowK 3 1 J (e 6) (nats' D) ∧ e 28 = .int .i64 k ∧ e 29 = .int .i64 i ∧ i ≤ k ∧ D.length ≤ i ∧
    (m.map Prod.fst).Nodup ∧ (∀ x : Int, 0 ≤ x → x < k → (getL x m).isNone = D.contains x.toNat) ∧ order33 p.ns = ordN p.ns (k - i) D ∧ H = .box p.cs :: .mp (mpA (AV.int .i64) (AV.int .i64) m) c :: .box [.map 1] :: J) 0 ?_ ?_
  · refine ⟨[], [], leftN p.ns k, some 0, by simp [e1], by simp [e3], by simp, by simp [GrowK], by simp, by simp, by omega, by simp, leftN_keys, ?_, ?_, by simp⟩
    · intro x h1 h2
      rw [leftN_none]; simp [h1, h2]
    · unfold order33; rw [hnl, hn]; rfl
  clear e1 e3 e
  rintro i e H ⟨J, D, m, c, e1, e3, e5, hg, e28, e29, hi, hDl, hmk, hmD, ho, rfl⟩
  by_cases hlt : i < k
  · have ew := wrap_next hlt (by omega)
    simp [e1, e3, e5, e28, e29, hlt, ← hn]
    refine vc_loop (fun t : Nat => k - t) (fun t e' H' => e' 1 = .ptr 0 0 ∧ e' 3 = .ptr 2 0 ∧ e' 5 = .fn (.func 92) [] [.ptr 2 0] ∧ e' 6 = e 6 ∧ e' 28 = .int .i64 k ∧ e' 29 = .int .i64 i ∧ e' 33 = .int .i64 k ∧ e' 34 = .int .i64 t ∧ t ≤ k ∧ (∀ s, s < t → readyN p.ns (doneQ D) (s : Nat) = false) ∧ H' = .box p.cs :: .mp (mpA (AV.int .i64) (AV.int .i64) m) c :: .box [.map 1] :: J) 0 ?_ ?_
    · simp [e1, e3, e5, e28, e29]
    rintro t e' H' ⟨e1', e3', e5', e6', e28', e29', e33', e34', ht, hno, rfl⟩
    by_cases htk : t < k
    · have ewt := wrap_next htk (by omega)
      have htp : t < p.pipes.length := by omega
      have hg1 := S_gone (.box p.cs :: .mp (mpA (AV.int .i64) (AV.int .i64) m) c :: .box [.map 1] :: J) 2 1 m c t (by simp) (by simp)
      rw [hmD t (by omega) (by omega)] at hg1
      have hme := S_met (.box p.cs :: .mp (mpA (AV.int .i64) (AV.int .i64) m) c :: .box [.map 1] :: J) p 92 [.ptr 2 0] t (fun x => (getL x m).isNone) hp htp (fun x L a b => S_gone _ 2 1 m c x (by simp) (by simp))
      have hR : readyN p.ns (doneQ D) (t : Nat) = (!D.contains t && (p.pipes[t].needs).all fun n => decide (0 ≤ n) && decide (n < p.pipes.length) && (getL n m).isNone) := by
        unfold readyN
        rw [hnl, show ((t : Nat) : Int).toNat = t from rfl, p.ns_get htp]
        have : (p.pipes[t].needs).all (fun n => decide (0 ≤ n) && decide (n < p.pipes.length) && (getL n m).isNone) = (p.pipes[t].needs).all (fun n => decide (0 ≤ n) && decide (n < (p.pipes.length : Int)) && doneQ D n) := by
          congr 1
          funext x
          by_cases h1 : 0 ≤ x
          · by_cases h2 : x < p.pipes.length
            · rw [hmD x h1 (by omega)]; simp [h1, h2, doneQ]
            · simp [h2]
          · simp [h1]
        rw [this]
        simp [htp, doneQ]
      generalize hq : (p.pipes[t].needs).all (fun n => decide (0 ≤ n) && decide (n < p.pipes.length) && (getL n m).isNone) = q at *
      simp [e1', e3', e5', e6', e28', e29', e33', e34', htk]
      refine TS.pt hg1 ?_
      simp [e1', e3', e5', e6', e28', e29', e33', e34', htk]
      refine GTK.inv (r := .bool q) (fun H' => H' = .box p.cs :: .mp (mpA (AV.int .i64) (AV.int .i64) m) c :: .box [.map 1] :: J) (fun _ => hme) rfl ?_
      rintro H' rfl
      simp [e1', e3', e5', e6', e28', e29', e33', e34', htk]
      refine condK_of (fun c1 => ?_) (fun c1 => ?_)
      · have hrt : readyN p.ns (doneQ D) (t : Nat) = true := by rw [hR]; simpa using c1
        have hnx : nextT p.ns D = some t := by
          unfold nextT
          rw [hnl, ← hn, List.find?_range_eq_some]
          exact ⟨hrt, List.mem_range.2 htk, fun s hs => by rw [hno s hs]; rfl⟩
        have htD : t ∉ D := by simp at c1; exact c1.1
        obtain ⟨j, v, hj⟩ : ∃ j v, lkp (t : Int) m 0 = some (j, v) := by
          have h1 := hmD t (by omega) (by omega)
          cases h2 : lkp (t : Int) m 0 with
          | none =>
            exfalso
            rw [show getL (t : Int) m = none by unfold getL; rw [h2]; rfl] at h1
            simp at h1
            exact htD h1
          | some pr => exact ⟨pr.1, pr.2, rfl⟩
        have hdl : delL (t : Int) m = m.eraseIdx j := by unfold delL; rw [hj]
        have hm' : ∀ x : Int, 0 ≤ x → x < k → (getL x (m.eraseIdx j)).isNone = (D ++ [t]).contains x.toNat := by
          intro x h1 h2
          rw [← hdl, getL_del hmk]
          by_cases hx : x = t
          · subst hx; simp
          · rw [if_neg hx, hmD x h1 h2]
            have : ¬ x.toNat = t := by omega
            simp [this]
        have hmk' : ((m.eraseIdx j).map Prod.fst).Nodup := by rw [← hdl]; exact delL_keys hmk
        have ho' : order33 p.ns = ordN p.ns (k - (i + 1)) (D ++ [t]) := by
          rw [ho, show k - i = (k - (i + 1)) + 1 by omega, ordN, hnx]
        rcases hg with ⟨ge, hg⟩ | ⟨w, hg, hw⟩
        · rw [avs_eq_nil] at ge
          subst ge
          simp [e1', e3', e5', e6', e28', e29', e33', e34', htk, hg, keys_int, findK_mpA, hj, mpA_erase]
          exact ⟨i + 1, by omega, J ++ [.spare 1 1], [t], GrowK.first (f := natA) (l := []) rfl (by simp), ew, by omega, by simp, m.eraseIdx j, hmk', by simpa using hm', ho', rfl, rfl⟩
        · have hw' : J[w]? = some (.spare D.length 1) := by simpa using hw
          simp [e1', e3', e5', e6', e28', e29', e33', e34', htk, hg, hw', keys_int, findK_mpA, hj, mpA_erase]
          exact ⟨by omega, i + 1, by omega, J.set w (.spare (D.length + 1) 1), D ++ [t], GrowK.more (f := natA) hw rfl, ew, by omega, by simp; omega, m.eraseIdx j, hmk', by simpa using hm', ho', rfl, rfl⟩
      · have hrt : readyN p.ns (doneQ D) (t : Nat) = false := by rw [hR]; simpa using c1
        simp [e1', e3', e5', e6', e28', e29', e33', e34', htk]
        refine ⟨t + 1, by omega, ewt, by omega, fun s hs => ?_⟩
        rcases Nat.lt_or_ge s t with h2 | h2
        · exact hno s h2
        · have : s = t := by omega
          subst this; exact hrt
    · have : t = k := by omega
      subst this
      have hnx : nextT p.ns D = none := by
        unfold nextT
        rw [List.find?_eq_none]
        intro x hx
        rw [hnl, ← hn] at hx
        rw [hno x (List.mem_range.1 hx)]
        simp
      simp [e1', e3', e5', e6', e28', e29', e33', e34']
      exact ⟨i + 1, by omega, J, D, hg, ew, by omega, by omega, m, hmk, by simpa using hmD, by rw [ho, ordN_end hnx, ordN_end hnx], rfl, rfl⟩
  · have : i = k := by omega
    subst this
    obtain ⟨own, hg⟩ := hg.own
    simp [e1, e3, e5, e28, e29, hg]
    rw [ho, Nat.sub_self]; rfl
end Go.Proofs.Ytgmhmdmfnmlhmab.PL
