/- Playing joins on both. -/
import Derived.Test.YtcjfjoilgnlemaaFUf
namespace Go.Proofs.Ytcjfjoilgnlemaa.PL
open Go.Proofs
set_option linter.unusedVariables false
set_option linter.unusedSimpArgs false
/-- the reference's list tells the roots -/
def Same06 (up r : List Nat) : Prop := r.length = up.length ∧ ∀ k, k < up.length → r.getD k 0 = rt up k
theorem same_new (n : Nat) : Same06 (List.range n) (List.range n) := ⟨rfl, fun k hk => by
  rw [rt_range n k (by simpa using hk)]
  simp at hk
  simp [hk]⟩
theorem fv_of {up r : List Nat} (h : Same06 up r) (a : Int) : fv up a = if inR r a = true then (r.getD a.toNat 0 : Int) else -1 := by
  unfold fv inR
  rw [h.1]
  by_cases hi : 0 ≤ a ∧ a < up.length
  · rw [if_pos hi, if_pos (by simpa using hi), h.2 _ (by omega)]
  · rw [if_neg hi, if_neg (by simpa using hi)]
theorem same_join {up r : List Nat} (ok : UfOk up) (h : Same06 up r) (a b : Int) : Same06 (joU up a b) (rjo r a b) := by
  obtain ⟨j1, j2, j3⟩ := jo_ok ok a b
  have ea := fv_of h a
  have eb := fv_of h b
  refine ⟨by rw [j1, ← h.1]; unfold rjo; split <;> simp, fun k hk => ?_⟩
  rw [j1] at hk
  rw [j3, ea, eb]
  have hrk := h.2 k hk
  have hk' : k < r.length := by rw [h.1]; exact hk
  unfold joB rjo
  rw [ea, eb]
  by_cases ha : inR r a = true
  · by_cases hb : inR r b = true
    · rw [if_pos ha, if_pos hb, if_pos ⟨ha, hb⟩]
      generalize r.getD a.toNat 0 = x
      generalize r.getD b.toNat 0 = y
      have e1 : (r.map fun v => if v = max x y then min x y else v).getD k 0 = if r.getD k 0 = max x y then min x y else r.getD k 0 := by
        simp [hk']
      rw [e1, hrk]
      generalize rt up k = v
      have e2 : (!(decide ((x : Int) < 0) || decide ((y : Int) < 0) || decide ((x : Int) = (y : Int)))) = decide (x ≠ y) := by
        rw [Bool.eq_iff_iff]; simp; omega
      rw [e2]
      by_cases hxy : x = y
      · subst hxy
        simp
        omega
      · have e3 : ((v : Int) = max (x : Int) (y : Int)) ↔ v = max x y := by omega
        by_cases hv : v = max x y
        · rw [if_pos hv, if_pos ⟨by simpa using hxy, e3.2 hv⟩]; omega
        · rw [if_neg hv, if_neg (fun e => hv (e3.1 e.2))]
    · rw [if_pos ha, if_neg hb, if_neg (by simp [hb]), hrk, if_neg (by simp)]
  · rw [if_neg ha, if_neg (by simp [ha]), hrk, if_neg (by simp)]
abbrev pairA (p : Int × Int) : AV := .agg [.int .i64 p.1, .int .i64 p.2]
instance : Sized pairA 2 := ⟨fun _ => rfl⟩
instance : Plain pairA := ⟨fun _ => rfl⟩
def plU (up : List Nat) : List (Int × Int) → List Nat
  | [] => up
  | p :: ps => plU (joU up p.1 p.2) ps
def plH (H : List HO) (R : Nat) (up : List Nat) : List (Int × Int) → List HO
  | [] => H
  | p :: ps => plH (joH H R up p.1 p.2) R (joU up p.1 p.2) ps
def plR (r : List Nat) : List (Int × Int) → List Nat
  | [] => r
  | p :: ps => plR (rjo r p.1 p.2) ps
theorem jo_at {H : List HO} {C R : Nat} {up : List Nat} (h : UfAt H C R up) (ok : UfOk up) (hCR : C ≠ R) (a b : Int) : UfAt (joH H R up a b) C R (joU up a b) := by
  have k1 := fu_ok ok a
  have k2 := fu_at h ok hCR a
  have k3 := fu_ok k1.2.1 b
  have k4 := fu_at k2 k1.2.1 hCR b
  have e3 : (joU0 up a b).length = up.length := by show (fu (fu up a) b).length = _; rw [k3.1, k1.1]
  change UfAt (joH0 H R up a b) C R (joU0 up a b) at k4
  have l1 := fv_lt ok a
  unfold joH
  split
  · rename_i hj
    have hne : joU0 up a b ≠ [] := by
      intro e
      rw [e] at e3
      simp [joB] at hj
      simp at e3
      omega
    have := k4.set hCR (vp := joU up a b) (by rw [(jo_ok ok a b).1, e3]) hne
    rw [e3] at this
    exact this
  · rename_i hj
    have : joU up a b = joU0 up a b := by unfold joU; rw [if_neg hj]
    rw [this]; exact k4

set_option maxRecDepth 4000 in
theorem S_len (H : List HO) (C R : Nat) (up : List Nat) (h : UfAt H C R up) (hl : up.length < 4611686018427387904) : TS Try.prog 47 [.ptr C 0] H (pt (.int .i64 up.length) H) := by
  refine TS.body mix Try.func47 (by kernel_rfl) rfl (by kernel_rfl) (by simp) ?_
  rcases h with ⟨rfl, own, ho, hC⟩ | ⟨hne, hC, hR⟩
  · simp [hC, isPtrT]
  · simp [hC, hR, isPtrT]
theorem pl_ok {C R : Nat} (hCR : C ≠ R) : ∀ (ps : List (Int × Int)) (H : List HO) (up r : List Nat), UfAt H C R up → UfOk up → Same06 up r →
    (plU up ps).length = up.length ∧ UfAt (plH H R up ps) C R (plU up ps) ∧ UfOk (plU up ps) ∧ Same06 (plU up ps) (plR r ps)
  | [], H, up, r, h1, h2, h3 => ⟨rfl, h1, h2, h3⟩
  | p :: ps, H, up, r, h1, h2, h3 => by
    have j := jo_ok h2 p.1 p.2
    obtain ⟨a, b, c, d⟩ := pl_ok hCR ps (joH H R up p.1 p.2) (joU up p.1 p.2) (rjo r p.1 p.2) (jo_at h1 h2 hCR _ _) j.2.1 (same_join h2 h3 _ _)
    exact ⟨by rw [← j.1]; exact a, b, c, d⟩
/-- what stands elsewhere stays -/
theorem joH_ne {H : List HO} {R k : Nat} {up : List Nat} {a b : Int} (h : R ≠ k) : (joH H R up a b)[k]? = H[k]? := by
  have f : ∀ (H : List HO) (up : List Nat) (i : Int), (fH H R up i)[k]? = H[k]? := fun H up i => by
    unfold fH; split
    · rw [List.getElem?_set_ne h]
    · rfl
  unfold joH joH0
  split
  · rw [List.getElem?_set_ne h, f, f]
  · rw [f, f]
theorem plH_ne {R k : Nat} (h : R ≠ k) : ∀ (ps : List (Int × Int)) (H : List HO) (up : List Nat), (plH H R up ps)[k]? = H[k]?
  | [], H, up => rfl
  | p :: ps, H, up => by rw [plH, plH_ne h ps, joH_ne h]
theorem newH_old {H : List HO} {n k : Nat} (hk : k < H.length) : (newH H n)[k]? = H[k]? := by
  unfold newH; split <;> rw [List.getElem?_append_left hk]
end Go.Proofs.Ytcjfjoilgnlemaa.PL
