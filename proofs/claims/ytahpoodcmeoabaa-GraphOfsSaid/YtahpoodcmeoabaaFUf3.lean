/- All classes. -/
import Derived.Test.YtahpoodcmeoabaaFUf2
namespace Go.Proofs.Ytahpoodcmeoabaa.PL
open Go.Proofs
set_option linter.unusedVariables false
set_option linter.unusedSimpArgs false
instance : Selfs natA := ⟨fun a x h => by simp [AV.cells] at h; subst h; simp⟩
theorem fH_app {H L : List HO} {C R : Nat} {up : List Nat} (h : UfAt H C R up) (i : Int) : fH (H ++ L) R up i = fH H R up i ++ L := by
  unfold fH
  split
  · rcases h with ⟨rfl, _⟩ | ⟨hne, hC, hR⟩
    · simp at *; omega
    · rw [List.set_append_left _ _ (List.getElem?_eq_some_iff.1 hR).1]
  · rfl
theorem UfAt.app {H L : List HO} {C R : Nat} {up : List Nat} (h : UfAt H C R up) : UfAt (H ++ L) C R up := by
  rcases h with ⟨h1, own, ho, hC⟩ | ⟨h1, hC, hR⟩
  · exact .inl ⟨h1, own, ho, getElem?_app hC⟩
  · exact .inr ⟨h1, getElem?_app hC, getElem?_app hR⟩
theorem lts_nats {n : Nat} {l : List Nat} : AV.lts n (nats' l) = true := by
  rw [AV.lts_iff]
  intro x hx
  obtain ⟨a, _, rfl⟩ := mem_avs.1 hx
  rfl
/-- the classes stand, each number's class told by ρ -/
def UfS (H : List HO) (C R n : Nat) (ρ : Nat → Nat) : Prop := ∃ up, UfAt H C R up ∧ UfOk up ∧ up.length = n ∧ ∀ k, k < n → rt up k = ρ k
structure UfStep (H H' : List HO) (C R n : Nat) (ρ : Nat → Nat) : Prop where
  st : UfS H' C R n ρ
  len : H'.length = H.length
  oth : ∀ j, (j ≠ R ∨ n = 0) → H'[j]? = H[j]?
  new : ∀ h : HO, h ∈ H' → h ∈ H ∨ h.lt H'.length = true
theorem UfStep.refl {H : List HO} {C R n : Nat} {ρ : Nat → Nat} (h : UfS H C R n ρ) : UfStep H H C R n ρ := ⟨h, rfl, fun _ _ => rfl, fun _ h => .inl h⟩
theorem UfStep.trans {H H' H'' : List HO} {C R n : Nat} {ρ ρ' : Nat → Nat} (h : UfStep H H' C R n ρ) (k : UfStep H' H'' C R n ρ') : UfStep H H'' C R n ρ' :=
  ⟨k.st, k.len.trans h.len, fun j hj => (k.oth j hj).trans (h.oth j hj), fun x hx => by
    rcases k.new x hx with h1 | h1
    · rcases h.new x h1 with h2 | h2
      · exact .inl h2
      · exact .inr (by rw [k.len]; exact h2)
    · exact .inr h1⟩
theorem fH_step {H : List HO} {C R n : Nat} {up : List Nat} {ρ : Nat → Nat} (h : UfAt H C R up) (ok : UfOk up) (hCR : C ≠ R) (hn : up.length = n) (hr : ∀ k, k < n → rt up k = ρ k) (i : Int) : UfStep H (fH H R up i) C R n ρ := by
  have k1 := fu_ok ok i
  refine ⟨⟨fu up i, fu_at h ok hCR i, k1.2.1, by rw [k1.1, hn], fun k hk => by rw [k1.2.2, hr k hk]⟩, ?_, ?_, ?_⟩
  · unfold fH; split <;> simp
  · intro j hj
    unfold fH
    split
    · rw [List.getElem?_set_ne (by omega)]
    · rfl
  · intro x hx
    unfold fH at hx
    split at hx
    · rcases List.mem_or_eq_of_mem_set hx with h1 | rfl
      · exact .inl h1
      · exact .inr lts_nats
    · exact .inl hx
theorem TS.ptE {P : Program} {f : FuncId} {args : List AV} {H : List HO} {K L : AV → List HO → Prop} (h : TS P f args H L) (hk : ∀ r H', L r H' → K r H') : TS P f args H K := h.mono hk
/-- Find, told by the classes -/
def fvR (n : Nat) (ρ : Nat → Nat) (i : Int) : Int := if 0 ≤ i ∧ i < n then (ρ i.toNat : Int) else -1
theorem fv_R {up : List Nat} {n : Nat} {ρ : Nat → Nat} (hn : up.length = n) (hr : ∀ k, k < n → rt up k = ρ k) (i : Int) : fv up i = fvR n ρ i := by
  unfold fv fvR
  rw [hn]
  split
  · rw [hr _ (by omega)]
  · rfl
theorem S_findE {H : List HO} {C R n : Nat} {ρ : Nat → Nat} (i : Int) (h : UfS H C R n ρ) (hCR : C ≠ R) (hl : n ≤ 1000) : TS Try.prog 110 [.ptr C 0, .int .i64 i] H (fun r H' => r = .int .i64 (fvR n ρ i) ∧ UfStep H H' C R n ρ) := by
  obtain ⟨up, hat, ok, hn, hr⟩ := h
  refine TS.pt (S_findI H C R up i hat ok hCR (by omega)) ⟨by rw [fv_R hn hr], fH_step hat ok hCR hn hr i⟩
def esF : Nat → List Nat → List (Int × Nat)
  | _, [] => []
  | j, r :: rs => ((r : Int), j) :: esF (j + 1) rs
theorem esF_append : ∀ {rs : List Nat} {j x : Nat}, esF j (rs ++ [x]) = esF j rs ++ [((x : Int), j + rs.length)]
  | [], j, x => rfl
  | r :: rs, j, x => by
    rw [List.cons_append, esF, esF_append, esF, List.cons_append, List.length_cons]
    congr 4
    omega
theorem esF_none : ∀ {rs : List Nat} {j x : Nat}, x ∉ rs → getL (x : Int) (esF j rs) = none
  | [], j, x, _ => rfl
  | r :: rs, j, x, h => by
    simp at h
    rw [esF, getL_cons, if_neg (by omega)]
    exact esF_none h.2
theorem esF_some : ∀ {rs : List Nat} {j q x : Nat}, rs.Nodup → rs[q]? = some x → getL (x : Int) (esF j rs) = some (j + q)
  | [], j, q, x, _, h => by cases h
  | r :: rs, j, 0, x, hn, h => by
    simp at h
    subst h
    rw [esF, getL_cons, if_pos rfl]; rfl
  | r :: rs, j, q + 1, x, hn, h => by
    simp at h
    rw [List.nodup_cons] at hn
    rw [esF, getL_cons, if_neg, esF_some hn.2 h]
    · congr 1; omega
    · intro e
      have : x = r := by omega
      subst this
      exact hn.1 (List.mem_of_getElem? h)
def oslF : Nat → List (List Nat) → List (Own × List Nat)
  | _, [] => []
  | t, c :: cs => (.tok t, c) :: oslF (t + 1) cs
theorem oslF_length : ∀ {cs : List (List Nat)} {t : Nat}, (oslF t cs).length = cs.length
  | [], t => rfl
  | c :: cs, t => by rw [oslF, List.length_cons, oslF_length, List.length_cons]
theorem oslF_snd : ∀ {cs : List (List Nat)} {t : Nat}, (oslF t cs).map Prod.snd = cs
  | [], t => rfl
  | c :: cs, t => by rw [oslF, List.map_cons, oslF_snd]
theorem oslF_append : ∀ {cs : List (List Nat)} {t : Nat} {c : List Nat}, oslF t (cs ++ [c]) = oslF t cs ++ [(.tok (t + cs.length), c)]
  | [], t, c => rfl
  | d :: cs, t, c => by
    rw [List.cons_append, oslF, oslF_append, oslF, List.cons_append, List.length_cons]
    congr 5
    omega
theorem oslF_get : ∀ {cs : List (List Nat)} {t j : Nat}, (oslF t cs)[j]? = (cs[j]?).map fun c => (.tok (t + j), c)
  | [], t, j => by simp [oslF]
  | c :: cs, t, 0 => by simp [oslF]
  | c :: cs, t, j + 1 => by
    rw [oslF, List.getElem?_cons_succ, oslF_get, List.getElem?_cons_succ, show t + 1 + j = t + (j + 1) by omega]
theorem oslF_set : ∀ {cs : List (List Nat)} {t j : Nat} {c : List Nat}, oslF t (cs.set j c) = (oslF t cs).set j (.tok (t + j), c)
  | [], t, j, c => by simp [oslF]
  | d :: cs, t, 0, c => by simp [oslF]
  | d :: cs, t, j + 1, c => by
    rw [oslF, List.set_cons_succ, oslF, oslF_set, List.set_cons_succ, show t + 1 + j = t + (j + 1) by omega]
/-- the roots below a, and their classes -/
def rsA (ρ : Nat → Nat) (a : Nat) : List Nat := (List.range a).filter fun i => decide (ρ i = i)
def clA (ρ : Nat → Nat) (a i : Nat) : List Nat := (List.range a).filter fun k => decide (ρ k = i)
def csA (ρ : Nat → Nat) (a : Nat) : List (List Nat) := (rsA ρ a).map (clA ρ a)
theorem rsA_succ {ρ : Nat → Nat} {a : Nat} : rsA ρ (a + 1) = if ρ a = a then rsA ρ a ++ [a] else rsA ρ a := by
  unfold rsA
  rw [List.range_succ, List.filter_append]
  by_cases h : ρ a = a <;> simp [h]
theorem clA_succ {ρ : Nat → Nat} {a i : Nat} : clA ρ (a + 1) i = if ρ a = i then clA ρ a i ++ [a] else clA ρ a i := by
  unfold clA
  rw [List.range_succ, List.filter_append]
  by_cases h : ρ a = i <;> simp [h]
theorem mem_rsA {ρ : Nat → Nat} {a i : Nat} : i ∈ rsA ρ a ↔ i < a ∧ ρ i = i := by unfold rsA; simp
theorem rsA_nodup {ρ : Nat → Nat} {a : Nat} : (rsA ρ a).Nodup := List.Nodup.sublist List.filter_sublist List.nodup_range
theorem csA_length {ρ : Nat → Nat} {a : Nat} : (csA ρ a).length = (rsA ρ a).length := by simp [csA]
theorem csA_new {ρ : Nat → Nat} {a : Nat} (hle : ∀ k, k < a → ρ k ≤ k) (h : ρ a = a) : csA ρ (a + 1) = csA ρ a ++ [[a]] := by
  unfold csA
  rw [rsA_succ, if_pos h, List.map_append]
  congr 1
  · apply List.map_congr_left
    intro i hi
    rw [clA_succ, if_neg]
    have := (mem_rsA.1 hi).1
    omega
  · simp only [List.map_cons, List.map_nil]
    rw [clA_succ, if_pos h]
    have : clA ρ a a = [] := by
      unfold clA
      rw [List.filter_eq_nil_iff]
      intro k hk
      have h1 := hle k (List.mem_range.1 hk)
      have h2 := List.mem_range.1 hk
      simp
      omega
    rw [this]; rfl
theorem csA_old {ρ : Nat → Nat} {a j : Nat} (h : ρ a ≠ a) (hj : (rsA ρ a)[j]? = some (ρ a)) : csA ρ (a + 1) = (csA ρ a).set j (clA ρ a (ρ a) ++ [a]) ∧ (csA ρ a)[j]? = some (clA ρ a (ρ a)) := by
  have hjl := (List.getElem?_eq_some_iff.1 hj).1
  refine ⟨?_, by unfold csA; rw [List.getElem?_map, hj]; rfl⟩
  unfold csA
  rw [rsA_succ, if_neg h]
  apply List.ext_getElem?
  intro i
  rw [List.getElem?_set, List.getElem?_map]
  by_cases e : j = i
  · subst e
    rw [hj, if_pos rfl, if_pos (by simpa using hjl)]
    simp [clA_succ]
  · rw [if_neg e, List.getElem?_map]
    cases hi : (rsA ρ a)[i]? with
    | none => rfl
    | some x =>
      simp only [Option.map_some]
      rw [clA_succ, if_neg]
      intro e2
      subst e2
      have hil := (List.getElem?_eq_some_iff.1 hi).1
      rw [← hi] at hj
      exact e ((List.getElem?_inj hjl rsA_nodup).1 hj)
theorem rsA_root {ρ : Nat → Nat} {a : Nat} (h1 : ρ a ≤ a) (h2 : ρ (ρ a) = ρ a) (h : ρ a ≠ a) : ∃ j : Nat, (rsA ρ a)[j]? = some (ρ a) :=
  List.getElem?_of_mem (mem_rsA.2 ⟨by omega, h2⟩)
/-- what stands behind the classes, in the midst of All -/
def alL (h : Nat) (rs : List Nat) (cs : List (List Nat)) : List HO := .mp (mpA (AV.int .i64) natA (esF 0 rs)) (some 0) :: (if cs = [] then [] else .row cs.length 1 (avs (oslA natA) (oslF (h + 2) cs)) :: cs.map fun c => .spare c.length 1)
def alV (h : Nat) (cs : List (List Nat)) : AV := if cs = [] then .sl .nil [] else .mv (h + 1) cs.length 1 0 cs.length
set_option maxRecDepth 4000 in
theorem S_all (H : List HO) (C R n : Nat) (ρ : Nat → Nat) (h : UfS H C R n ρ) (hρ : ∀ k, k < n → ρ k ≤ k ∧ ρ (ρ k) = ρ k) (hCR : C ≠ R) (hl : n ≤ 1000) :
    TS Try.prog 158 [.ptr C 0] H (fun r H' => r = slA (slA natA) (csA ρ n) ∧ UfStep H H' C R n ρ) := by
  have hS := h
  obtain ⟨up, hat, ok, hup, hr⟩ := h
  have f0 := S_len (H ++ [.mp [] (some 0)]) C R up hat.app (by omega)
  rw [hup] at f0
  refine TS.dropE ?_
  refine TS.bodyM [33] mix Try.func158 (by kernel_rfl) rfl (by kernel_rfl) (by simp) ?_
  simp
  refine TS.pt f0 ?_
  simp
  clear f0 hat ok hup hr up
  obtain ⟨h, hh⟩ : ∃ h, h = H.length := ⟨_, rfl⟩
  rw [← hh]
  refine vc_loop (fun a : Nat => n - a) (fun a e H' => ∃ Hc : List HO, e 0 = .ptr C 0 ∧ e 3 = alV h (csA ρ a) ∧ e 4 = .map h ∧ e 11 = .int .i64 n ∧ e 12 = .int .i64 a ∧ a ≤ n ∧ UfStep H Hc C R n ρ ∧ H' = Hc ++ alL h (rsA ρ a) (csA ρ a)) 0 ?_ ?_
  · exact ⟨H, by simp, by simp [alV, csA, rsA], by simp, by simp, by simp, by omega, UfStep.refl hS, by simp [alL, csA, rsA, esF, mpA]⟩
  rintro a e H' ⟨Hc, h0, h3, h4, h11, h12, ha, hst, rfl⟩
  by_cases hlt : a < n
  · have ew := wrap_next hlt (by omega)
    have hlen : h = Hc.length := by rw [hst.len, hh]
    obtain ⟨up, hat, ok, hup, hr⟩ := hst.st
    have hra := hρ a hlt
    have f1 := S_find (Hc ++ alL h (rsA ρ a) (csA ρ a)) C R up a hat.app ok hCR (by omega) (by omega)
    rw [hr a hlt] at f1
    have hfs := fH_step hat ok hCR hup hr a
    have e1 : (Hc ++ alL h (rsA ρ a) (csA ρ a)).set R (.row up.length 1 (nats' (comp up a))) = fH Hc R up a ++ alL h (rsA ρ a) (csA ρ a) := by
      rw [← fH_app hat]
      unfold fH
      rw [if_pos (by omega)]
      simp
    rw [e1] at f1
    have hst2 := hst.trans hfs
    clear e1 hfs hat
    generalize fH Hc R up a = Hd at *
    have hlend : h = Hd.length := by rw [hst2.len, hh]
    clear hst hlen ok hup hr
    generalize Hc ++ alL h (rsA ρ a) (csA ρ a) = Hx at *
    simp [h0, h3, h4, h11, h12, hlt]
    refine TS.pt f1 ?_
    subst hlend
    have hlr : (csA ρ a).length = (rsA ρ a).length := csA_length
    by_cases hnew : ρ a = a
    · have hget : getL ((ρ a : Nat) : Int) (esF 0 (rsA ρ a)) = none := esF_none (by rw [hnew, mem_rsA]; omega)
      have n1 : csA ρ (a + 1) = csA ρ a ++ [[a]] := csA_new (fun k hk => (hρ k (by omega)).1) hnew
      have n2 : rsA ρ (a + 1) = rsA ρ a ++ [a] := by rw [rsA_succ, if_pos hnew]
      clear f1
      generalize csA ρ a = cs at *
      generalize rsA ρ a = rs at *
      rw [hnew] at hget
      have hput : putL (a : Int) cs.length (esF 0 rs) = esF 0 (rs ++ [a]) := by rw [putL_none hget, esF_append, hlr, Nat.zero_add]
      by_cases hcs : cs = []
      · subst hcs
        have : rs = [] := List.eq_nil_of_length_eq_zero hlr.symm
        subst this
        have hput' : putK (.int .i64 (a : Int)) (.int .i64 0) (mpA (AV.int .i64) natA (esF 0 [])) = mpA (AV.int .i64) natA (esF 0 [a]) := by
          have := putK_mpA (kf := AV.int .i64) (g := natA) (k := (a : Int)) (v := 0) (l := esF 0 [])
          rw [show (AV.int .i64 0 : AV) = natA 0 from rfl, this]
          rfl
        simp [alV, alL, h0, h3, h4, h11, h12, hlt, hnew, keys_int, found_mpA, hget, -foundV]
        refine ⟨a + 1, by omega, by simp [n1], ew, by omega, Hd, hst2, ?_⟩
        rw [hput', n1, n2]
        simp [oslF]
      · have hput' : putK (.int .i64 (a : Int)) (.int .i64 (cs.length : Int)) (mpA (AV.int .i64) natA (esF 0 rs)) = mpA (AV.int .i64) natA (esF 0 (rs ++ [a])) := by
          have := putK_mpA (kf := AV.int .i64) (g := natA) (k := (a : Int)) (v := cs.length) (l := esF 0 rs)
          rw [hput] at this
          exact this
        have hol : (oslF (Hd.length + 2) cs).length = cs.length := oslF_length
        have hsp : (cs.map fun c => HO.spare c.length 1).length = cs.length := by simp
        have hn0 : oslF (Hd.length + 2) (cs ++ [[a]]) = oslF (Hd.length + 2) cs ++ [(.tok (Hd.length + 2 + cs.length), [a])] := oslF_append
        have hcn : cs.length < 1000 := by
          have h1 : (csA ρ (a + 1)).length ≤ a + 1 := by
            rw [csA_length]
            exact Nat.le_trans (List.length_filter_le _ _) (by simp)
          rw [n1] at h1
          simp at h1
          omega
        simp [alV, alL, h0, h3, h4, h11, h12, hlt, hnew, keys_int, found_mpA, hget, hcs, hput', hol, -foundV]
        refine ⟨by omega, by omega, a + 1, by omega, by simp [n1], ew, by omega, Hd, hst2, ?_⟩
        rw [n1, n2, if_neg (by simp), hn0, List.drop_eq_nil_of_le (by simp [hol])]
        simp [show Hd.length + (cs.length + 1 + 1) = Hd.length + 2 + cs.length by omega]
        exact avs_concat (f := oslA natA) (a := (.tok (Hd.length + 2 + cs.length), [a]))
    · obtain ⟨j, hj⟩ := rsA_root hra.1 hra.2 hnew
      obtain ⟨n1, c2⟩ := csA_old hnew hj
      have n2 : rsA ρ (a + 1) = rsA ρ a := by rw [rsA_succ, if_neg hnew]
      have hget : getL ((ρ a : Nat) : Int) (esF 0 (rsA ρ a)) = some (0 + j) := esF_some rsA_nodup hj
      rw [Nat.zero_add] at hget
      clear f1
      have hcl : (clA ρ a (ρ a)).length ≤ a := Nat.le_trans (List.length_filter_le _ _) (by simp)
      generalize clA ρ a (ρ a) = c at *
      generalize csA ρ a = cs at *
      generalize rsA ρ a = rs at *
      have hjl : j < cs.length := (List.getElem?_eq_some_iff.1 c2).1
      have hcs : cs ≠ [] := by rintro rfl; simp at hjl
      have hol : (oslF (Hd.length + 2) cs).length = cs.length := oslF_length
      have holj : ∀ q, (oslF (Hd.length + 2) cs)[j]'q = (.tok (Hd.length + 2 + j), c) := fun q => by
        have : (oslF (Hd.length + 2) cs)[j]? = some (.tok (Hd.length + 2 + j), c) := by rw [oslF_get, c2]; rfl
        rw [List.getElem?_eq_getElem q] at this
        exact Option.some.inj this
      have hcj : cs[j] = c := by rw [List.getElem?_eq_getElem hjl] at c2; exact Option.some.inj c2
      have hn0 : oslF (Hd.length + 2) (cs.set j (c ++ [a])) = (oslF (Hd.length + 2) cs).set j (.tok (Hd.length + 2 + j), c ++ [a]) := oslF_set
      simp [alV, alL, h0, h3, h4, h11, h12, hlt, keys_int, found_mpA, hget, hcs, hol, holj, hjl, app_at2, c2, app_set2, oslA, -foundV]
      refine ⟨⟨⟨by omega, by omega⟩, by rw [hcj]⟩, by omega, a + 1, by omega, ?_, ew, by omega, Hd, hst2, ?_⟩
      · rw [n1, if_neg (by simpa using hcs), List.length_set]
      · rw [n1, n2, if_neg (by simpa using hcs), hn0, List.length_set, List.map_set]
        have h5 : (oslF (Hd.length + 2) cs).set j (.tok (Hd.length + 2 + j), c ++ [a]) = (oslF (Hd.length + 2) cs).take j ++ (.tok (Hd.length + 2 + j), c ++ [a]) :: (oslF (Hd.length + 2) cs).drop (j + 1) := by rw [List.set_eq_take_append_cons_drop, if_pos (by omega)]
        rw [h5]
        simp
        exact avs_append (f := oslA natA) (l := (oslF (Hd.length + 2) cs).take j) (m := (.tok (Hd.length + 2 + j), c ++ [a]) :: (oslF (Hd.length + 2) cs).drop (j + 1))
  · have : a = n := by omega
    subst this
    have hlen : h = Hc.length := by rw [hst.len, hh]
    simp [h0, h3, h4, h11, h12]
    refine ⟨_, Hc, ⟨_, rfl⟩, by omega, hst.new, ?_, rfl, hst⟩
    unfold alV alL
    by_cases hcs : csA ρ a = []
    · rw [if_pos hcs, hcs]
      exact Frz.slN (f := slA natA) (l := [])
    · rw [if_neg hcs, if_neg hcs]
      refine Frz.mvosl (l := oslF (h + 2) (csA ρ a)) ?_ oslF_length oslF_snd
      rw [mask_ge (by omega), hlen]
      simp

theorem UfS.at {H : List HO} {C R n : Nat} {ρ : Nat → Nat} (h : UfS H C R n ρ) : ∃ up, UfAt H C R up ∧ up.length = n := by
  obtain ⟨up, h1, _, h2, _⟩ := h
  exact ⟨up, h1, h2⟩
/-- how many roots are below a number's -/
def nmR (n : Nat) (ρ : Nat → Nat) (i : Int) : Int := if 0 ≤ i ∧ i < n then ((rsA ρ (ρ i.toNat)).length : Nat) else -1
end Go.Proofs.Ytahpoodcmeoabaa.PL
