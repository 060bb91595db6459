/- Relations: all together, in the program and by the reference. -/
import Derived.Test.YtjplcdeaedflpaaDoorFRel10
import Derived.Test.YtjplcdeaedflpaaDoorFRelP2
namespace Go.Proofs.YtjplcdeaedflpaaDoor.PL
open Go.Proofs
set_option linter.unusedVariables false
set_option linter.unusedSimpArgs false
theorem vals_self {cols : List Int} {x : List Val} (hn : cols.Pairwise (· < ·)) (hl : x.length = cols.length) : (cols.map fun c => pickF x (idxF cols c)) = x := by
  have hnd : cols.Nodup := hn.imp fun h => by omega
  apply List.ext_getElem
  · simp [hl]
  · intro i h1 h2
    rw [List.getElem_map]
    have hi : i < cols.length := by omega
    obtain ⟨j, hj, e1, e2⟩ := idxF_at (List.getElem_mem hi)
    have : j = i := (List.getElem_inj hnd).1 e1
    subst this
    rw [e2, pickF_in h2]
theorem setI_self4 {l : List Int} (h : l.Pairwise (· < ·)) : setI l = l := rises_eq (setI_rises l) h fun x => setI_mem
theorem join_unit {r : Rel} (h : rightR r = true) : joinR ⟨[], [[]]⟩ r = r := by
  have hc : colsJ ⟨[], [[]]⟩ r = r.cols := by unfold colsJ; rw [List.nil_append]; exact setI_self4 (rightR_rises h)
  unfold joinR rowsJ rowJ
  rw [hc]
  have hm : ∀ y, meetB ⟨[], [[]]⟩ r [] y = true := fun y => meetB_iff.2 fun c h => by cases h
  have hf : r.rows.filter (fun y => meetB ⟨[], [[]]⟩ r [] y) = r.rows := List.filter_eq_self.2 fun y _ => hm y
  rw [List.flatMap_cons, List.flatMap_nil, List.append_nil, hf]
  have e : r.rows.map (fun y => r.cols.map (cellJ ⟨[], [[]]⟩ r [] y)) = r.rows.map id := by
    apply List.map_congr_left
    intro y hy
    have : r.cols.map (cellJ ⟨[], [[]]⟩ r [] y) = r.cols.map fun c => pickF y (idxF r.cols c) := by
      apply List.map_congr_left
      intro c _
      rfl
    rw [this, vals_self (rightR_rises h) (rightR_row h hy)]
    rfl
  rw [e, List.map_id]
theorem allJ_one {r : Rel} (h : rightR r = true) : allJ [r] = r := join_unit h
theorem allJ_right (l : List Rel) : rightR (allJ l) = true := by
  rcases List.eq_nil_or_concat l with rfl | ⟨l, r, rfl⟩
  · decide
  · rw [List.concat_eq_append, allJ_snoc]; exact join_right _ _
/-- the product of all rows, and one each -/
def prodR : List Rel → Nat
  | [] => 1
  | r :: l => (r.rows.length + 1) * prodR l
theorem prodR_pos : ∀ l : List Rel, 0 < prodR l
  | [] => by simp [prodR]
  | r :: l => Nat.mul_pos (by omega) (prodR_pos l)
theorem flat_le {α β : Type} {f : α → List β} {k : Nat} : ∀ {l : List α}, (∀ x, x ∈ l → (f x).length ≤ k) → (l.flatMap f).length ≤ l.length * k
  | [], _ => by simp
  | a :: l, h => by
    have h1 := h a List.mem_cons_self
    have h2 := flat_le (f := f) (k := k) fun x hx => h x (List.mem_cons_of_mem _ hx)
    rw [List.flatMap_cons, List.length_append, List.length_cons, Nat.add_mul]
    omega
theorem tups_len : ∀ l : List Rel, (tupsR l).length ≤ prodR l
  | [] => by simp [tupsR, prodR]
  | r :: l => by
    have ih := tups_len l
    have h1 : (tupsR (r :: l)).length ≤ r.rows.length * (tupsR l).length :=
      flat_le (f := fun x => (tupsR l).map fun t => (r.cols, x) :: t) fun x _ => by rw [List.length_map]; exact Nat.le_refl _
    have h2 : r.rows.length * (tupsR l).length ≤ (r.rows.length + 1) * prodR l := Nat.mul_le_mul (by omega) ih
    show _ ≤ (r.rows.length + 1) * prodR l
    omega
theorem allJ_len (l : List Rel) : (allJ l).rows.length ≤ prodR l := by
  rw [allJ_rows]
  exact Nat.le_trans (List.length_filterMap_le ..) (tups_len l)
theorem prodR_perm {l l' : List Rel} (h : l.Perm l') : prodR l = prodR l' := by
  induction h with
  | nil => rfl
  | cons r _ ih => show _ * prodR _ = _ * prodR _; rw [ih]
  | swap r s l => show _ * (_ * prodR _) = _ * (_ * prodR _); rw [Nat.mul_left_comm]
  | trans _ _ h1 h2 => exact h1.trans h2
theorem prodR_take (l : List Rel) : ∀ k, prodR (l.take k) ≤ prodR l := by
  induction l with
  | nil => intro k; simp
  | cons r l ih =>
    intro k
    cases k with
    | zero => exact prodR_pos _
    | succ k => exact Nat.mul_le_mul_left _ (ih k)
theorem held_rows (r : Rel) : (heldR r).rows.length ≤ r.rows.length := by unfold heldR; split <;> simp [zR]
theorem held_cols (r : Rel) : (heldR r).cols.length ≤ r.cols.length := by unfold heldR; split <;> simp [zR]
theorem prodR_held (l : List Rel) : prodR (l.map heldR) ≤ prodR l := by
  induction l with
  | nil => exact Nat.le_refl _
  | cons r l ih =>
    have := held_rows r
    exact Nat.mul_le_mul (by omega) ih
/-- what is asked of some in the proofs -/
structure OkL (l : List Rel) : Prop where
  ok : ∀ r, r ∈ l → OkR r
  nc : ∀ r, r ∈ l → r.cols.length ≤ 20
  len : l.length ≤ 40
  pr : prodR l ≤ 100000
theorem OkL.take {l : List Rel} (h : OkL l) (k : Nat) : OkL (l.take k) :=
  ⟨fun r hr => h.ok r (List.mem_of_mem_take hr), fun r hr => h.nc r (List.mem_of_mem_take hr), by have := h.len; rw [List.length_take]; omega, Nat.le_trans (prodR_take l k) h.pr⟩
theorem OkL.held {l : List Rel} (h : OkL l) : OkL (l.map heldR) := by
  refine ⟨fun r hr => ?_, fun r hr => ?_, by simpa using h.len, Nat.le_trans (prodR_held l) h.pr⟩
  · obtain ⟨x, hx, rfl⟩ := List.mem_map.1 hr
    exact heldR_ok (h.ok x hx)
  · obtain ⟨x, hx, rfl⟩ := List.mem_map.1 hr
    exact Nat.le_trans (held_cols x) (h.nc x hx)
theorem colsL_len {l : List Rel} (h : OkL l) : (colsL l).length ≤ 800 := by
  have h1 := setI_len (l.flatMap Rel.cols)
  have h2 := flat_le (f := Rel.cols) (k := 20) (l := l) h.nc
  have h3 := h.len
  unfold colsL
  omega
theorem OkL.all {l : List Rel} (h : OkL l) : OkR (allJ l) := by
  refine ⟨?_, ?_, fun x hx => ?_⟩
  · have := colsL_len h
    rw [allJ_cols]; omega
  · have := allJ_len l
    have := h.pr
    omega
  · have hlen := colsL_len h
    rw [allJ_rows, List.mem_filterMap] at hx
    obtain ⟨t, ht, hx⟩ := hx
    unfold rowT at hx
    split at hx
    · cases hx
      refine ⟨by rw [List.length_map]; omega, fun v hv => ?_⟩
      obtain ⟨c, _, rfl⟩ := List.mem_map.1 hv
      have key : valT t c = zV4 ∨ ∃ e, e ∈ t ∧ valT t c ∈ e.2 := by
        unfold valT
        cases hf : t.find? (fun e => decide (c ∈ e.1)) with
        | none => exact .inl rfl
        | some e =>
          rcases pickF_mem (r := e.2) (p := idxF e.1 c) with h1 | h1
          · exact .inl h1
          · exact .inr ⟨e, List.mem_of_find?_eq_some hf, h1⟩
      rcases key with e | ⟨e, he, hm⟩
      · rw [e]; simp [zV4]
      · obtain ⟨h1, h2⟩ := tups_mem.1 ht
        obtain ⟨i, hi, rfl⟩ := List.getElem_of_mem he
        have := (h2 i hi (by omega)).2
        exact ((h.ok _ (List.getElem_mem (show i < l.length by omega))).row _ this).2 _ hm
    · cases hx
theorem sharedI_len2 (a b : List Int) : (sharedI a b).length ≤ b.length := by
  refine nodup_le ?_ fun x hx => (sharedI_mem'.1 hx).2
  unfold sharedI
  exact ((setI_rises a).imp (fun h => by omega)).filter _
instance : Sized Rel.av 2 := ⟨fun _ => rfl⟩
abbrev rels' (l : List Rel) : List AV := avs Rel.av l
theorem take_held {l : List Rel} {i : Nat} (h : i < l.length) : (l.take (i + 1)).map heldR = (l.take i).map heldR ++ [heldR l[i]] := by rw [take_next h, List.map_append]; rfl
theorem OkL.step {l : List Rel} (h : OkL l) {i : Nat} (hi : i < l.length) : OkR (allJ ((l.take i).map heldR)) ∧ OkR l[i] ∧ (bothR (heldR (allJ ((l.take i).map heldR))) (heldR l[i])).length ≤ 40 ∧ joinR (heldR (allJ ((l.take i).map heldR))) (heldR l[i]) = allJ ((l.take (i + 1)).map heldR) := by
  have h1 := (h.take i).held.all
  have h2 := h.ok _ (List.getElem_mem hi)
  have h3 := h.nc _ (List.getElem_mem hi)
  refine ⟨h1, h2, ?_, ?_⟩
  · have := sharedI_len2 (heldR (allJ ((l.take i).map heldR))).cols (heldR l[i]).cols
    have := held_cols l[i]
    show (sharedI _ _).length ≤ 40
    omega
  · rw [take_held hi, allJ_snoc, heldR_of (allJ_right _)]
/-- the first ones together -/
def allH (l : List Rel) (i : Nat) : Rel := allJ ((l.take i).map heldR)
theorem allH_all (l : List Rel) : allH l l.length = allJ (l.map heldR) := by unfold allH; rw [List.take_length]
theorem OkL.stepH {l : List Rel} (h : OkL l) {i : Nat} (hi : i < l.length) : OkR (allH l i) ∧ OkR l[i] ∧ (bothR (heldR (allH l i)) (heldR l[i])).length ≤ 40 ∧ joinR (heldR (allH l i)) (heldR l[i]) = allH l (i + 1) := h.step hi
theorem allH_one {l : List Rel} (h : 0 < l.length) : allH l 1 = heldR l[0] := by
  have : allH l (0 + 1) = allJ ((l.take 0).map heldR ++ [heldR l[0]]) := by unfold allH; rw [take_held h]
  rw [this]
  exact allJ_one (heldR_right _)
def SA (l : List Rel) (i : Nat) (H : List HO) : Prop := ∃ c2 z J, c2.length = 2 ∧ H = .box c2 :: .box z :: J ∧ ((i = 0 ∧ z = [.sl .exact [], .sl .exact [.sl .nil []]]) ∨ (0 < i ∧ z = (allH l i).cs))
theorem Frz.oneNil {H : List HO} : Frz H (.agg [.sl .exact [], .sl .exact [.sl .nil []]]) (.agg [.sl .no [], .sl .no [.sl .no []]]) :=
  .agg (.cons (Frz.slN (f := AV.int .i64) (l := [])) (.cons (Frz.slosl (f := Val.av) (l := [(.nil, [])]) rfl) .nil))


end Go.Proofs.YtjplcdeaedflpaaDoor.PL
