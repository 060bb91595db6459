/- Relations: rows by their keys. -/
import Derived.Test.YtjplcdeaedflpaaDoorFRel3
namespace Go.Proofs.YtjplcdeaedflpaaDoor.PL
open Go.Proofs
set_option linter.unusedVariables false
set_option linter.unusedSimpArgs false
abbrev PlL := List (ByteArray × (Own × List Int))
abbrev plA (L : PlL) : List (AV × AV) := mpA AV.str (oslA (AV.int .i64)) L
/-- the places of a key -/
def placeK (k : ByteArray) (L : PlL) : List Int := match getL k L with | some p => p.2 | none => []
def idsK (kf : Nat → ByteArray) (k : ByteArray) (n : Nat) : List Int := ((List.range n).filter fun j => decide (kf j = k)).map fun j : Nat => (j : Int)
theorem idsK_next {kf : Nat → ByteArray} {k : ByteArray} {n : Nat} : idsK kf k (n + 1) = idsK kf k n ++ if kf n = k then [(n : Int)] else [] := by
  unfold idsK
  rw [List.range_succ, List.filter_append, List.map_append]
  by_cases h : kf n = k <;> simp [h]
theorem idsK_len (kf : Nat → ByteArray) (k : ByteArray) (n : Nat) : (idsK kf k n).length ≤ n := by
  unfold idsK
  rw [List.length_map]
  exact Nat.le_trans (List.length_filter_le ..) (by simp)
theorem placeK_put {k k' : ByteArray} {o : Own} {c : List Int} {L : PlL} : placeK k' (putL k (o, c) L) = if k' = k then c else placeK k' L := by
  unfold placeK
  rw [getL_put]
  by_cases h : k' = k <;> simp [h]
/-- each of the lists is one that grows, and each has room of its own -/
structure TokM (n : Nat) (M : List HO) (L : PlL) : Prop where
  at' : ∀ (j : Nat) (k : ByteArray) (o : Own) (c : List Int), L[j]? = some (k, (o, c)) → ∃ t, n ≤ t ∧ o = .tok t ∧ M[t]? = some (.spare c.length 1)
  inj : ∀ (i j t : Nat) (k k' : ByteArray) (c c' : List Int), L[i]? = some (k, (.tok t, c)) → L[j]? = some (k', (.tok t, c')) → i = j
theorem TokM.nil (n : Nat) (M : List HO) : TokM n M [] := ⟨fun _ _ _ _ h => by simp at h, fun _ _ _ _ _ _ _ h => by simp at h⟩
theorem TokM.push {n : Nat} {M : List HO} {L : PlL} (h : TokM n M L) {k : ByteArray} {t m : Nat} {c : List Int} {x : HO} (hm : m < n) (hn : n ≤ M.length) (ht : t = M.length) (hk : getL k L = none) (hc : c.length = 1) :
    TokM n ((M ++ [HO.spare 1 1]).set m x) (putL k (.tok t, c) L) := by
  subst ht
  rw [putL_none hk]
  have old : ∀ (j u : Nat) (k' : ByteArray) (d : List Int), L[j]? = some (k', (.tok u, d)) → u < M.length := fun j u k' d e => by
    obtain ⟨t, _, e1, e2⟩ := h.at' j k' _ d e
    cases e1
    exact (List.getElem?_eq_some_iff.1 e2).1
  have key : ∀ (j : Nat) (k' : ByteArray) (o : Own) (d : List Int), (L ++ [(k, (Own.tok M.length, c))])[j]? = some (k', (o, d)) → L[j]? = some (k', (o, d)) ∨ (j = L.length ∧ o = .tok M.length ∧ d = c) := fun j k' o d e => by
    rcases Nat.lt_or_ge j L.length with hj | hj
    · rw [List.getElem?_append_left hj] at e; exact .inl e
    · obtain rfl : j = L.length := by have := (List.getElem?_eq_some_iff.1 e).1; simp at this; omega
      simp at e
      exact .inr ⟨rfl, e.2.1.symm, e.2.2.symm⟩
  refine ⟨fun j k' o d e => ?_, fun i j t k1 k2 c1 c2 e1 e2 => ?_⟩
  · rcases key j k' o d e with e | ⟨_, rfl, rfl⟩
    · obtain ⟨t, g1, g2, g3⟩ := h.at' j k' o d e
      refine ⟨t, g1, g2, ?_⟩
      rw [List.getElem?_set_ne (by omega), List.getElem?_append_left (List.getElem?_eq_some_iff.1 g3).1]
      exact g3
    · refine ⟨_, hn, rfl, ?_⟩
      rw [List.getElem?_set_ne (by omega), List.getElem?_append_right (Nat.le_refl _), hc]
      simp
  · rcases key _ _ _ _ e1 with e1 | ⟨rfl, h1, _⟩ <;> rcases key _ _ _ _ e2 with e2 | ⟨rfl, h2, _⟩
    · exact h.inj _ _ _ _ _ _ _ e1 e2
    · cases h2; have := old _ _ _ _ e1; omega
    · cases h1; have := old _ _ _ _ e2; omega
    · rfl
theorem TokM.grow {n : Nat} {M : List HO} {L : PlL} (h : TokM n M L) {k : ByteArray} {t m q : Nat} {c d : List Int} {x : HO} (hm : m < n) (hk : getL k L = some (.tok t, c)) (hq : q = d.length) :
    TokM n ((M.set t (.spare q 1)).set m x) (putL k (.tok t, d) L) := by
  subst hq
  obtain ⟨p, hp⟩ : ∃ p, lkp k L 0 = some (p, (.tok t, c)) := by
    unfold getL at hk
    rw [Option.map_eq_some_iff] at hk
    obtain ⟨⟨p, y⟩, h1, h2⟩ := hk
    exact ⟨p, by rw [h1]; cases h2; rfl⟩
  have hat := (lkp_at hp).2
  rw [Nat.sub_zero] at hat
  have hpl := (List.getElem?_eq_some_iff.1 hat).1
  obtain ⟨u, ht0, e1, hsp⟩ := h.at' p k _ c hat
  cases e1
  have htl := (List.getElem?_eq_some_iff.1 hsp).1
  have hput : putL k (Own.tok t, d) L = L.set p (k, (Own.tok t, d)) := by unfold putL; rw [hp]
  rw [hput]
  have key : ∀ (j : Nat) (k' : ByteArray) (o : Own) (d' : List Int), (L.set p (k, (Own.tok t, d)))[j]? = some (k', (o, d')) → (j = p ∧ o = .tok t ∧ d' = d) ∨ (j ≠ p ∧ L[j]? = some (k', (o, d'))) := fun j k' o d' e => by
    by_cases hj : j = p
    · subst hj
      rw [List.getElem?_set_self hpl] at e
      simp at e
      exact .inl ⟨rfl, e.2.1.symm, e.2.2.symm⟩
    · rw [List.getElem?_set_ne (fun q => hj q.symm)] at e
      exact .inr ⟨hj, e⟩
  refine ⟨fun j k' o d' e => ?_, fun i j u k1 k2 c1 c2 e1 e2 => ?_⟩
  · rcases key j k' o d' e with ⟨_, rfl, rfl⟩ | ⟨hj, e⟩
    · refine ⟨t, ht0, rfl, ?_⟩
      rw [List.getElem?_set_ne (by omega), List.getElem?_set_self htl]
    · obtain ⟨u, g1, g2, g3⟩ := h.at' j k' o d' e
      subst g2
      have : t ≠ u := by rintro rfl; exact hj (h.inj _ _ _ _ _ _ _ e hat)
      refine ⟨u, g1, rfl, ?_⟩
      rw [List.getElem?_set_ne (by omega), List.getElem?_set_ne this]
      exact g3
  · rcases key _ _ _ _ e1 with ⟨hi, h1, _⟩ | ⟨hi, f1⟩ <;> rcases key _ _ _ _ e2 with ⟨hj, h2, _⟩ | ⟨hj, f2⟩
    · omega
    · cases h1
      have := h.inj _ _ _ _ _ _ _ hat f2
      omega
    · cases h2
      have := h.inj _ _ _ _ _ _ _ f1 hat
      omega
    · exact h.inj _ _ _ _ _ _ _ f1 f2
/-- the memory in which rows are put by their keys -/
structure BM (H : List HO) (r : Rel) (cs : List Int) (L : PlL) (M : List HO) : Prop where
  pre : ∀ i, i < H.length → M[i]? = H[i]?
  len : H.length + 4 ≤ M.length
  g0 : M[H.length]? = some (.box r.cs)
  g1 : ∃ c4 : List AV, c4.length = 4 ∧ M[H.length + 1]? = some (.box c4)
  gm : M[H.length + 2]? = some (.mp (plA L) (some 0))
  g3 : M[H.length + 3]? = some (.box [.sl .no (ints' r.cols), .sl .no (rows' r.rows), .sl .no (ints' cs), .map (H.length + 2)])
  tok : TokM (H.length + 4) M L
theorem BM.push {H : List HO} {r : Rel} {cs : List Int} {L : PlL} {M : List HO} (h : BM H r cs L M) {k : ByteArray} {t : Nat} {c : List Int} (ht : t = M.length) (hk : getL k L = none) (hc : c.length = 1) :
    BM H r cs (putL k (.tok t, c) L) ((M ++ [HO.spare 1 1]).set (H.length + 2) (.mp (plA (putL k (.tok t, c) L)) (some 0))) := by
  have hl := h.len
  have old : ∀ i, i < M.length → i ≠ H.length + 2 → ((M ++ [HO.spare 1 1]).set (H.length + 2) (.mp (plA (putL k (.tok t, c) L)) (some 0)))[i]? = M[i]? := fun i hi hne => by
    rw [List.getElem?_set_ne (fun q => hne q.symm), List.getElem?_append_left hi]
  refine ⟨fun i hi => ?_, by simp; omega, ?_, ?_, ?_, ?_, h.tok.push (by omega) (by omega) ht hk hc⟩
  · rw [old i (by omega) (by omega)]; exact h.pre i hi
  · rw [old _ (by omega) (by omega)]; exact h.g0
  · rw [old _ (by omega) (by omega)]; exact h.g1
  · rw [List.getElem?_set_self (by simp; omega)]
  · rw [old _ (by omega) (by omega)]; exact h.g3
theorem BM.grow {H : List HO} {r : Rel} {cs : List Int} {L : PlL} {M : List HO} (h : BM H r cs L M) {k : ByteArray} {t q : Nat} {c d : List Int} (hk : getL k L = some (.tok t, c)) (hq : q = d.length) :
    BM H r cs (putL k (.tok t, d) L) ((M.set t (.spare q 1)).set (H.length + 2) (.mp (plA (putL k (.tok t, d) L)) (some 0))) := by
  have hl := h.len
  have ht : H.length + 4 ≤ t := by
    unfold getL at hk
    rw [Option.map_eq_some_iff] at hk
    obtain ⟨⟨p, y⟩, h1, h2⟩ := hk
    cases h2
    have hat := (lkp_at h1).2
    obtain ⟨u, g1, g2, _⟩ := h.tok.at' _ _ _ _ hat
    cases g2
    exact g1
  have old : ∀ i, i < H.length + 4 → i ≠ H.length + 2 → ((M.set t (.spare q 1)).set (H.length + 2) (.mp (plA (putL k (.tok t, d) L)) (some 0)))[i]? = M[i]? := fun i hi hne => by
    rw [List.getElem?_set_ne (fun q => hne q.symm), List.getElem?_set_ne (by omega)]
  refine ⟨fun i hi => ?_, by simp; omega, ?_, ?_, ?_, ?_, h.tok.grow (by omega) hk hq⟩
  · rw [old i (by omega) (by omega)]; exact h.pre i hi
  · rw [old _ (by omega) (by omega)]; exact h.g0
  · rw [old _ (by omega) (by omega)]; exact h.g1
  · rw [List.getElem?_set_self (by simp; omega)]
  · rw [old _ (by omega) (by omega)]; exact h.g3
theorem BM.app {H : List HO} {r : Rel} {cs : List Int} {L : PlL} {M : List HO} (h : BM H r cs L M) : ∃ J, M = H ++ J := by
  refine ⟨M.drop H.length, ?_⟩
  have hl := h.len
  apply List.ext_getElem?
  intro i
  rcases Nat.lt_or_ge i H.length with hi | hi
  · rw [List.getElem?_append_left hi]; exact h.pre i hi
  · rw [List.getElem?_append_right hi, List.getElem?_drop]; congr 1; omega
/-- the key of a row's values -/
def keyF (r : Rel) (cs : List Int) (j : Nat) : ByteArray := keyR (valsF r.cols (r.rows.getD j []) cs)
theorem pickF_mem {r : List Val} {p : Int} : pickF r p = zV4 ∨ pickF r p ∈ r := by
  unfold pickF
  split
  · rename_i h
    obtain ⟨n, rfl⟩ := Int.eq_ofNat_of_zero_le h.1
    have hn : n < r.length := by omega
    right
    simp [hn]
  · exact .inl rfl
theorem valsF_ok {r : Rel} (hr : OkR r) {row : List Val} (h : row ∈ r.rows) (cs : List Int) : i64V (valsF r.cols row cs) ∧ ∀ v, v ∈ valsF r.cols row cs → v.s.size ≤ 2000 := by
  have hrow := hr.row row h
  have key : ∀ v, v ∈ valsF r.cols row cs → v = zV4 ∨ v ∈ row := fun v hv => by
    obtain ⟨c, _, rfl⟩ := List.mem_map.1 hv
    exact pickF_mem
  refine ⟨fun v hv => ?_, fun v hv => ?_⟩
  · rcases key v hv with rfl | h
    · simp [zV4]
    · exact (hrow.2 v h).2
  · rcases key v hv with rfl | h
    · simp [zV4]
    · exact (hrow.2 v h).1
theorem S_build (H : List HO) (r : Rel) (cs : List Int) (hr : OkR r) (hc : cs.length ≤ 40) : TS Tryd.prog 18 [r.av, .sl .no (ints' cs)] H (fun x H' => ∃ L, x = .agg [.sl .no (ints' r.cols), .sl .no (rows' r.rows), .sl .no (ints' cs), .map (H.length + 2)] ∧ (∃ M, BM H r cs L M ∧ ∃ c4 : List AV, H' = M.set (H.length + 1) (.box c4)) ∧ ∀ k, placeK k L = idsK (keyF r cs) k r.rows.length) := by
  have hnr := hr.nr
  have hnc := hr.nc
  refine TS.bodyM [100006, 1060904, 1060906, 1061001, 1061004, 1061006] mix Tryd.func18 (by kernel_rfl) rfl (by kernel_rfl) (by simp) ?_
  simp
  refine vc_loop (fun i : Nat => r.rows.length - i) (fun i e M => e 1 = .sl .no (ints' cs) ∧ e 2 = .ptr H.length 0 ∧ e 4 = .ptr (H.length + 1) 0 ∧ e 5 = .ptr (H.length + 3) 0 ∧ e 14 = .sl .no (rows' r.rows) ∧ e 15 = .int .i64 r.rows.length ∧ e 16 = .int .i64 i ∧ i ≤ r.rows.length ∧ ∃ L, BM H r cs L M ∧ ∀ k, placeK k L = idsK (keyF r cs) k i) 0 ?_ ?_
  · simp
    refine ⟨[], ⟨fun i hi => by rw [List.getElem?_append_left hi], by simp, by simp, ⟨_, rfl, by rw [app_atn]; rfl⟩, by rw [app_atn]; rfl, by rw [app_atn]; rfl, TokM.nil _ _⟩, fun k => rfl⟩
  rintro i e M ⟨e1, e2, e4, e5, e14, e15, e16, hi, L, hb, hpl⟩
  by_cases hlt : i < r.rows.length
  · have ew := wrap_next hlt (by omega)
    have hrow := hr.row _ (List.getElem_mem hlt)
    have k1 := T_svalues r r.rows[i] cs hnc hrow.1 (by omega)
    have hv := valsF_ok hr (List.getElem_mem hlt) cs
    have k2 := T_rowKey (valsF r.cols r.rows[i] cs) (by simpa [valsF] using hc) hv.1 hv.2
    have hkf : keyF r cs i = keyR (valsF r.cols r.rows[i] cs) := by unfold keyF; rw [List.getD_eq_getElem?_getD, List.getElem?_eq_getElem hlt]; rfl
    have g0 := hb.g0
    simp [e1, e2, e4, e5, e14, e15, e16, hlt, g0]
    refine TS.callW k1 (Dws.self (by simp)) ?_
    simp [e1, e2, e4, e5, e14, e15, e16, hlt, g0]
    refine TS.callW k2 (Dws.self (by simp)) ?_
    rw [← hkf] at *
    generalize hkk : keyF r cs i = kk at *
    have hpk := hpl kk
    have gm := hb.gm
    have g3 := hb.g3
    have hM := hb.len
    cases hget : getL kk L with
    | none =>
      have hil : idsK (keyF r cs) kk i = [] := by rw [← hpk]; unfold placeK; rw [hget]
      have g3' : ∀ Y : List HO, (M ++ Y)[H.length + 3]? = some (.box [.sl .no (ints' r.cols), .sl .no (rows' r.rows), .sl .no (ints' cs), .map (H.length + 2)]) := fun Y => by rw [List.getElem?_append_left (by omega)]; exact g3
      have gm' : ∀ Y : List HO, (M ++ Y)[H.length + 2]? = some (.mp (plA L) (some 0)) := fun Y => by rw [List.getElem?_append_left (by omega)]; exact gm
      have hput : ∀ t, putK (.str kk) (.sl (.tok t) [.int .i64 (i : Int)]) (plA L) = plA (putL kk (.tok t, [(i : Int)]) L) := fun t => putK_mpA (kf := AV.str) (g := oslA (AV.int .i64)) (k := kk) (v := (Own.tok t, [(i : Int)])) (l := L)
      simp [e1, e2, e4, e5, e14, e15, e16, hlt, g0, g3, gm, g3', gm', keys_str, found_mpA, hget, hput, -foundV]
      refine ⟨i + 1, by omega, ew, by omega, _, hb.push rfl hget rfl, fun k => ?_⟩
      rw [placeK_put, idsK_next, hkk]
      by_cases hk : k = kk
      · subst hk; simp [hil]
      · have : ¬ kk = k := fun h => hk h.symm
        simp [hk, this, hpl k]
    | some p =>
      obtain ⟨o, c⟩ := p
      have hil : c = idsK (keyF r cs) kk i := by rw [← hpk]; unfold placeK; rw [hget]
      have hcl := idsK_len (keyF r cs) kk i
      rw [← hil] at hcl
      obtain ⟨t, ht0, rfl, hsp⟩ : ∃ t, H.length + 4 ≤ t ∧ o = .tok t ∧ M[t]? = some (.spare c.length 1) := by
        have hget2 := hget
        unfold getL at hget2
        rw [Option.map_eq_some_iff] at hget2
        obtain ⟨⟨p, y⟩, h1, h2⟩ := hget2
        cases h2
        have hat := (lkp_at h1).2
        exact hb.tok.at' _ _ _ _ hat
      have g3' : ∀ z : HO, (M.set t z)[H.length + 3]? = some (.box [.sl .no (ints' r.cols), .sl .no (rows' r.rows), .sl .no (ints' cs), .map (H.length + 2)]) := fun z => by rw [List.getElem?_set_ne (by omega)]; exact g3
      have gm' : ∀ z : HO, (M.set t z)[H.length + 2]? = some (.mp (plA L) (some 0)) := fun z => by rw [List.getElem?_set_ne (by omega)]; exact gm
      have hput : putK (.str kk) (.sl (.tok t) (ints' (c ++ [(i : Int)]))) (plA L) = plA (putL kk (.tok t, c ++ [(i : Int)]) L) := putK_mpA (kf := AV.str) (g := oslA (AV.int .i64)) (k := kk) (v := (Own.tok t, c ++ [(i : Int)])) (l := L)
      simp [e1, e2, e4, e5, e14, e15, e16, hlt, g0, g3, gm, g3', gm', keys_str, found_mpA, hget, hput, hsp, oslA, -foundV]
      refine ⟨by omega, i + 1, by omega, ew, by omega, _, hb.grow hget (by simp), fun k => ?_⟩
      rw [placeK_put, idsK_next, hkk]
      by_cases hk : k = kk
      · subst hk; simp [hil]
      · have : ¬ kk = k := fun h => hk h.symm
        simp [hk, this, hpl k]
  · have : i = r.rows.length := by omega
    subst this
    have g3 := hb.g3
    obtain ⟨c4, h4, g1⟩ := hb.g1
    match c4, h4 with
    | [u0, u1, u2, u3], _ =>
    have hM := hb.len
    have gz : ∀ z : HO, (M.set (H.length + 1) z)[H.length + 1]? = some z := fun z => List.getElem?_set_self (by omega)
    simp [e1, e2, e4, e5, e14, e15, e16, g3, g1, gz]
    exact ⟨L, ⟨M, hb, _, rfl⟩, hpl⟩
end Go.Proofs.YtjplcdeaedflpaaDoor.PL
