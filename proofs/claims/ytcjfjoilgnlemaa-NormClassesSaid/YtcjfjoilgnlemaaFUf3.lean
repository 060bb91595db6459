/- All classes. -/
import Derived.Test.YtcjfjoilgnlemaaFUf2
namespace Go.Proofs.Ytcjfjoilgnlemaa.PL
open Go.Proofs
set_option linter.unusedVariables false
set_option linter.unusedSimpArgs false
instance : Selfs natA := ⟨fun a x h => by simp [AV.cells] at h; subst h; simp⟩
theorem fH_app {H L : List HO} {C R : Nat} {up : List Nat} (h : UfAt H C R up) (i : Int) : fH (H ++ L) R up i = fH H R up i ++ L := by
  unfold fH
  split
  · rcases h with ⟨rfl, _⟩ | ⟨hne, hC, hR⟩
    · simp at *; omega
    · rw [List.set_append_left _ _ (List.getElem?_eq_some_iff.1 hR).1]
  · rfl
theorem UfAt.app {H L : List HO} {C R : Nat} {up : List Nat} (h : UfAt H C R up) : UfAt (H ++ L) C R up := by
  rcases h with ⟨h1, own, ho, hC⟩ | ⟨h1, hC, hR⟩
  · exact .inl ⟨h1, own, ho, getElem?_app hC⟩
  · exact .inr ⟨h1, getElem?_app hC, getElem?_app hR⟩
theorem lts_nats {n : Nat} {l : List Nat} : AV.lts n (nats' l) = true := by
  rw [AV.lts_iff]
  intro x hx
  obtain ⟨a, _, rfl⟩ := mem_avs.1 hx
  rfl
/-- the classes stand, each number's class told by ρ -/
def UfS (H : List HO) (C R n : Nat) (ρ : Nat → Nat) : Prop := ∃ up, UfAt H C R up ∧ UfOk up ∧ up.length = n ∧ ∀ k, k < n → rt up k = ρ k
structure UfStep (H H' : List HO) (C R n : Nat) (ρ : Nat → Nat) : Prop where
  st : UfS H' C R n ρ
  len : H'.length = H.length
  oth : ∀ j, (j ≠ R ∨ n = 0) → H'[j]? = H[j]?
  new : ∀ h : HO, h ∈ H' → h ∈ H ∨ h.lt H'.length = true
theorem UfStep.refl {H : List HO} {C R n : Nat} {ρ : Nat → Nat} (h : UfS H C R n ρ) : UfStep H H C R n ρ := ⟨h, rfl, fun _ _ => rfl, fun _ h => .inl h⟩
theorem UfStep.trans {H H' H'' : List HO} {C R n : Nat} {ρ ρ' : Nat → Nat} (h : UfStep H H' C R n ρ) (k : UfStep H' H'' C R n ρ') : UfStep H H'' C R n ρ' :=
  ⟨k.st, k.len.trans h.len, fun j hj => (k.oth j hj).trans (h.oth j hj), fun x hx => by
    rcases k.new x hx with h1 | h1
    · rcases h.new x h1 with h2 | h2
      · exact .inl h2
      · exact .inr (by rw [k.len]; exact h2)
    · exact .inr h1⟩
theorem fH_step {H : List HO} {C R n : Nat} {up : List Nat} {ρ : Nat → Nat} (h : UfAt H C R up) (ok : UfOk up) (hCR : C ≠ R) (hn : up.length = n) (hr : ∀ k, k < n → rt up k = ρ k) (i : Int) : UfStep H (fH H R up i) C R n ρ := by
  have k1 := fu_ok ok i
  refine ⟨⟨fu up i, fu_at h ok hCR i, k1.2.1, by rw [k1.1, hn], fun k hk => by rw [k1.2.2, hr k hk]⟩, ?_, ?_, ?_⟩
  · unfold fH; split <;> simp
  · intro j hj
    unfold fH
    split
    · rw [List.getElem?_set_ne (by omega)]
    · rfl
  · intro x hx
    unfold fH at hx
    split at hx
    · rcases List.mem_or_eq_of_mem_set hx with h1 | rfl
      · exact .inl h1
      · exact .inr lts_nats
    · exact .inl hx
theorem TS.ptE {P : Program} {f : FuncId} {args : List AV} {H : List HO} {K L : AV → List HO → Prop} (h : TS P f args H L) (hk : ∀ r H', L r H' → K r H') : TS P f args H K := h.mono hk
/-- Find, told by the classes -/
def fvR (n : Nat) (ρ : Nat → Nat) (i : Int) : Int := if 0 ≤ i ∧ i < n then (ρ i.toNat : Int) else -1
theorem fv_R {up : List Nat} {n : Nat} {ρ : Nat → Nat} (hn : up.length = n) (hr : ∀ k, k < n → rt up k = ρ k) (i : Int) : fv up i = fvR n ρ i := by
  unfold fv fvR
  rw [hn]
  split
  · rw [hr _ (by omega)]
  · rfl
theorem S_findE {H : List HO} {C R n : Nat} {ρ : Nat → Nat} (i : Int) (h : UfS H C R n ρ) (hCR : C ≠ R) (hl : n ≤ 1000) : TS Try.prog 86 [.ptr C 0, .int .i64 i] H (fun r H' => r = .int .i64 (fvR n ρ i) ∧ UfStep H H' C R n ρ) := by
  obtain ⟨up, hat, ok, hn, hr⟩ := h
  refine TS.pt (S_findI H C R up i hat ok hCR (by omega)) ⟨by rw [fv_R hn hr], fH_step hat ok hCR hn hr i⟩
def esF : Nat → List Nat → List (Int × Nat)
  | _, [] => []
  | j, r :: rs => ((r : Int), j) :: esF (j + 1) rs
theorem esF_append : ∀ {rs : List Nat} {j x : Nat}, esF j (rs ++ [x]) = esF j rs ++ [((x : Int), j + rs.length)]
  | [], j, x => rfl
  | r :: rs, j, x => by
    rw [List.cons_append, esF, esF_append, esF, List.cons_append, List.length_cons]
    congr 4
    omega
theorem esF_none : ∀ {rs : List Nat} {j x : Nat}, x ∉ rs → getL (x : Int) (esF j rs) = none
  | [], j, x, _ => rfl
  | r :: rs, j, x, h => by
    simp at h
    rw [esF, getL_cons, if_neg (by omega)]
    exact esF_none h.2
theorem esF_some : ∀ {rs : List Nat} {j q x : Nat}, rs.Nodup → rs[q]? = some x → getL (x : Int) (esF j rs) = some (j + q)
  | [], j, q, x, _, h => by cases h
  | r :: rs, j, 0, x, hn, h => by
    simp at h
    subst h
    rw [esF, getL_cons, if_pos rfl]; rfl
  | r :: rs, j, q + 1, x, hn, h => by
    simp at h
    rw [List.nodup_cons] at hn
    rw [esF, getL_cons, if_neg, esF_some hn.2 h]
    · congr 1; omega
    · intro e
      have : x = r := by omega
      subst this
      exact hn.1 (List.mem_of_getElem? h)
def oslF : Nat → List (List Nat) → List (Own × List Nat)
  | _, [] => []
  | t, c :: cs => (.tok t, c) :: oslF (t + 1) cs
theorem oslF_length : ∀ {cs : List (List Nat)} {t : Nat}, (oslF t cs).length = cs.length
  | [], t => rfl
  | c :: cs, t => by rw [oslF, List.length_cons, oslF_length, List.length_cons]
theorem oslF_snd : ∀ {cs : List (List Nat)} {t : Nat}, (oslF t cs).map Prod.snd = cs
  | [], t => rfl
  | c :: cs, t => by rw [oslF, List.map_cons, oslF_snd]
theorem oslF_append : ∀ {cs : List (List Nat)} {t : Nat} {c : List Nat}, oslF t (cs ++ [c]) = oslF t cs ++ [(.tok (t + cs.length), c)]
  | [], t, c => rfl
  | d :: cs, t, c => by
    rw [List.cons_append, oslF, oslF_append, oslF, List.cons_append, List.length_cons]
    congr 5
    omega
theorem oslF_get : ∀ {cs : List (List Nat)} {t j : Nat}, (oslF t cs)[j]? = (cs[j]?).map fun c => (.tok (t + j), c)
  | [], t, j => by simp [oslF]
  | c :: cs, t, 0 => by simp [oslF]
  | c :: cs, t, j + 1 => by
    rw [oslF, List.getElem?_cons_succ, oslF_get, List.getElem?_cons_succ, show t + 1 + j = t + (j + 1) by omega]
theorem oslF_set : ∀ {cs : List (List Nat)} {t j : Nat} {c : List Nat}, oslF t (cs.set j c) = (oslF t cs).set j (.tok (t + j), c)
  | [], t, j, c => by simp [oslF]
  | d :: cs, t, 0, c => by simp [oslF]
  | d :: cs, t, j + 1, c => by
    rw [oslF, List.set_cons_succ, oslF, oslF_set, List.set_cons_succ, show t + 1 + j = t + (j + 1) by omega]
/-- the roots below a, and their classes -/
def rsA (ρ : Nat → Nat) (a : Nat) : List Nat := (List.range a).filter fun i => decide (ρ i = i)
def clA (ρ : Nat → Nat) (a i : Nat) : List Nat := (List.range a).filter fun k => decide (ρ k = i)
def csA (ρ : Nat → Nat) (a : Nat) : List (List Nat) := (rsA ρ a).map (clA ρ a)
theorem rsA_succ {ρ : Nat → Nat} {a : Nat} : rsA ρ (a + 1) = if ρ a = a then rsA ρ a ++ [a] else rsA ρ a := by
  unfold rsA
  rw [List.range_succ, List.filter_append]
  by_cases h : ρ a = a <;> simp [h]
theorem clA_succ {ρ : Nat → Nat} {a i : Nat} : clA ρ (a + 1) i = if ρ a = i then clA ρ a i ++ [a] else clA ρ a i := by
  unfold clA
  rw [List.range_succ, List.filter_append]
  by_cases h : ρ a = i <;> simp [h]
theorem mem_rsA {ρ : Nat → Nat} {a i : Nat} : i ∈ rsA ρ a ↔ i < a ∧ ρ i = i := by unfold rsA; simp
theorem rsA_nodup {ρ : Nat → Nat} {a : Nat} : (rsA ρ a).Nodup := List.Nodup.sublist List.filter_sublist List.nodup_range
theorem csA_length {ρ : Nat → Nat} {a : Nat} : (csA ρ a).length = (rsA ρ a).length := by simp [csA]
theorem csA_new {ρ : Nat → Nat} {a : Nat} (hle : ∀ k, k < a → ρ k ≤ k) (h : ρ a = a) : csA ρ (a + 1) = csA ρ a ++ [[a]] := by
  unfold csA
  rw [rsA_succ, if_pos h, List.map_append]
  congr 1
  · apply List.map_congr_left
    intro i hi
    rw [clA_succ, if_neg]
    have := (mem_rsA.1 hi).1
    omega
  · simp only [List.map_cons, List.map_nil]
    rw [clA_succ, if_pos h]
    have : clA ρ a a = [] := by
      unfold clA
      rw [List.filter_eq_nil_iff]
      intro k hk
      have h1 := hle k (List.mem_range.1 hk)
      have h2 := List.mem_range.1 hk
      simp
      omega
    rw [this]; rfl
theorem csA_old {ρ : Nat → Nat} {a j : Nat} (h : ρ a ≠ a) (hj : (rsA ρ a)[j]? = some (ρ a)) : csA ρ (a + 1) = (csA ρ a).set j (clA ρ a (ρ a) ++ [a]) ∧ (csA ρ a)[j]? = some (clA ρ a (ρ a)) := by
  have hjl := (List.getElem?_eq_some_iff.1 hj).1
  refine ⟨?_, by unfold csA; rw [List.getElem?_map, hj]; rfl⟩
  unfold csA
  rw [rsA_succ, if_neg h]
  apply List.ext_getElem?
  intro i
  rw [List.getElem?_set, List.getElem?_map]
  by_cases e : j = i
  · subst e
    rw [hj, if_pos rfl, if_pos (by simpa using hjl)]
    simp [clA_succ]
  · rw [if_neg e, List.getElem?_map]
    cases hi : (rsA ρ a)[i]? with
    | none => rfl
    | some x =>
      simp only [Option.map_some]
      rw [clA_succ, if_neg]
      intro e2
      subst e2
      have hil := (List.getElem?_eq_some_iff.1 hi).1
      rw [← hi] at hj
      exact e ((List.getElem?_inj hjl rsA_nodup).1 hj)
theorem rsA_root {ρ : Nat → Nat} {a : Nat} (h1 : ρ a ≤ a) (h2 : ρ (ρ a) = ρ a) (h : ρ a ≠ a) : ∃ j : Nat, (rsA ρ a)[j]? = some (ρ a) :=
  List.getElem?_of_mem (mem_rsA.2 ⟨by omega, h2⟩)
/-- what stands behind the classes, in the midst of All -/
def alL (h : Nat) (rs : List Nat) (cs : List (List Nat)) : List HO := .mp (mpA (AV.int .i64) natA (esF 0 rs)) (some 0) :: (if cs = [] then [] else .row cs.length 1 (avs (oslA natA) (oslF (h + 2) cs)) :: cs.map fun c => .spare c.length 1)
def alV (h : Nat) (cs : List (List Nat)) : AV := if cs = [] then .sl .nil [] else .mv (h + 1) cs.length 1 0 cs.length


theorem UfS.at {H : List HO} {C R n : Nat} {ρ : Nat → Nat} (h : UfS H C R n ρ) : ∃ up, UfAt H C R up ∧ up.length = n := by
  obtain ⟨up, h1, _, h2, _⟩ := h
  exact ⟨up, h1, h2⟩
/-- how many roots are below a number's -/
def nmR (n : Nat) (ρ : Nat → Nat) (i : Int) : Int := if 0 ≤ i ∧ i < n then ((rsA ρ (ρ i.toNat)).length : Nat) else -1
end Go.Proofs.Ytcjfjoilgnlemaa.PL
