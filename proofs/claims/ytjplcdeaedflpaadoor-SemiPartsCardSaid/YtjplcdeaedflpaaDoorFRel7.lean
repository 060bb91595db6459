/- Relations: the example, and some vertices with each row once. -/
import Derived.Test.YtjplcdeaedflpaaDoorFRel6
namespace Go.Proofs.YtjplcdeaedflpaaDoor.PL
open Go.Proofs
set_option linter.unusedVariables false
set_option linter.unusedSimpArgs false
def exA : Rel := ⟨[1, 2], [[⟨1, 1, ByteArray.empty⟩, ⟨1, 5, ByteArray.empty⟩], [⟨0, 0, ByteArray.empty⟩, ⟨1, 6, ByteArray.empty⟩]]⟩
def exB : Rel := ⟨[1], [[⟨1, 1, ByteArray.empty⟩], [⟨0, 0, ByteArray.empty⟩]]⟩
theorem exA_ok : OkR exA := ⟨by decide, by decide, by
  intro l hl
  simp [exA] at hl
  rcases hl with rfl | rfl
  · refine ⟨by decide, fun v hv => ?_⟩
    simp at hv
    rcases hv with rfl | rfl <;> exact ⟨by decide, by decide, by decide⟩
  · refine ⟨by decide, fun v hv => ?_⟩
    simp at hv
    rcases hv with rfl | rfl <;> exact ⟨by decide, by decide, by decide⟩⟩
theorem exB_ok : OkR exB := ⟨by decide, by decide, by
  intro l hl
  simp [exB] at hl
  rcases hl with rfl | rfl
  · refine ⟨by decide, fun v hv => ?_⟩
    simp at hv
    subst hv
    exact ⟨by decide, by decide, by decide⟩
  · refine ⟨by decide, fun v hv => ?_⟩
    simp at hv
    subst hv
    exact ⟨by decide, by decide, by decide⟩⟩
theorem ex_semi : someR (heldR exA) (heldR exB) true = ⟨[1, 2], [[⟨1, 1, ByteArray.empty⟩, ⟨1, 5, ByteArray.empty⟩]]⟩ := by decide +kernel
theorem ex_anti : someR (heldR exA) (heldR exB) false = ⟨[1, 2], [[⟨0, 0, ByteArray.empty⟩, ⟨1, 6, ByteArray.empty⟩]]⟩ := by decide +kernel
theorem T_live24 : T Tryd.prog 6 [] (.bool true) := by
  have k1 := T_semijoin exA exB exA_ok exB_ok (by decide)
  have k2 := T_anti exA exB exA_ok exB_ok (by decide)
  rw [ex_semi] at k1
  rw [ex_anti] at k2
  have k3 := T_rrowSame [⟨1, 1, ByteArray.empty⟩, ⟨1, 5, ByteArray.empty⟩] [⟨1, 1, ByteArray.empty⟩, ⟨1, 5, ByteArray.empty⟩] (by show 2 < _; omega) (by show 2 < _; omega)
  have k4 := T_rrowSame [⟨0, 0, ByteArray.empty⟩, ⟨1, 6, ByteArray.empty⟩] [⟨0, 0, ByteArray.empty⟩, ⟨1, 6, ByteArray.empty⟩] (by show 2 < _; omega) (by show 2 < _; omega)
  refine T.intro (TS.bodyM [300003, 1030800, 1030801, 1030802, 1030803, 1030804, 1030805, 1030806, 1030807, 1030900, 1030901, 1030902, 1030903, 1030904, 1030905, 1030906, 1030907, 1030908] mix Tryd.func6 (by kernel_rfl) rfl (by kernel_rfl) (by simp) ?_)
  have dw : Dws [.agg [.sl .exact [.int .i64 1, .int .i64 2], .sl .exact [.sl .exact [Val.av ⟨1, 1, ByteArray.empty⟩, Val.av ⟨1, 5, ByteArray.empty⟩], .sl .exact [Val.av ⟨0, 0, ByteArray.empty⟩, Val.av ⟨1, 6, ByteArray.empty⟩]]], .agg [.sl .exact [.int .i64 1], .sl .exact [.sl .exact [Val.av ⟨1, 1, ByteArray.empty⟩], .sl .exact [Val.av ⟨0, 0, ByteArray.empty⟩]]]] [exA.av, exB.av] :=
    .cons (.agg (.cons (.sl (Dws.self (by simp))) (.cons (.sl (.cons (.sl (Dws.self (by simp))) (.cons (.sl (Dws.self (by simp))) .nil))) .nil))) (.cons (.agg (.cons (.sl (Dws.self (by simp))) (.cons (.sl (.cons (.sl (Dws.self (by simp))) (.cons (.sl (Dws.self (by simp))) .nil))) .nil))) .nil)
  simp
  refine TDK.callW k1 dw ?_
  simp
  refine TDK.callW k2 dw ?_
  simp
  refine GTK.callW (fun _ => ⟨k3, .cons (.self (by simp)) (.cons (.sl (Dws.self (by simp))) .nil)⟩) ?_
  simp
  refine GTK.callW (fun _ => ⟨k4, .cons (.self (by simp)) (.cons (.sl (Dws.self (by simp))) .nil)⟩) ?_
  simp
/-- some vertices, each row once -/
def addR (l : List (List Val)) (x : List Val) : List (List Val) := if x ∈ l then l else l ++ [x]
def nubR (l : List (List Val)) : List (List Val) := l.foldl addR []
theorem nubR_snoc (l : List (List Val)) (x : List Val) : nubR (l ++ [x]) = addR (nubR l) x := by unfold nubR; rw [List.foldl_append]; rfl
theorem snocI {α : Type} {p : List α → Prop} (h0 : p []) (h1 : ∀ l a, p l → p (l ++ [a])) (l : List α) : p l := by
  have : ∀ l : List α, p l.reverse := fun l => by
    induction l with
    | nil => exact h0
    | cons a l ih => rw [List.reverse_cons]; exact h1 _ _ ih
  have := this l.reverse
  rwa [List.reverse_reverse] at this
theorem nubR_len (l : List (List Val)) : (nubR l).length ≤ l.length := by
  refine snocI (p := fun l => (nubR l).length ≤ l.length) (by simp [nubR]) (fun l a ih => ?_) l
  rw [nubR_snoc]; unfold addR; split <;> simp <;> omega
theorem nubR_mem {l : List (List Val)} {x : List Val} : x ∈ nubR l ↔ x ∈ l := by
  refine snocI (p := fun l => x ∈ nubR l ↔ x ∈ l) (by simp [nubR]) (fun l a ih => ?_) l
  rw [nubR_snoc]
  unfold addR
  split
  · rename_i h
    rw [ih, List.mem_append, List.mem_singleton]
    constructor
    · exact .inl
    · rintro (h2 | rfl)
      · exact h2
      · exact ih.1 h
  · rw [List.mem_append, List.mem_append, ih]
def projC (r : Rel) (cs : List Int) : List Int := r.cols.filter fun c => decide (c ∈ cs)
def projR (r : Rel) (cs : List Int) : Rel := ⟨projC r cs, nubR (r.rows.map fun x => valsF r.cols x (projC r cs))⟩
theorem projC_len (r : Rel) (cs : List Int) : (projC r cs).length ≤ r.cols.length := List.length_filter_le ..
theorem proj_next {r : Rel} {cs : List Int} {i : Nat} (h : i < r.rows.length) : nubR ((r.rows.take (i + 1)).map fun x => valsF r.cols x cs) = addR (nubR ((r.rows.take i).map fun x => valsF r.cols x cs)) (valsF r.cols r.rows[i] cs) := by
  rw [take_next h, List.map_append, List.map_singleton, nubR_snoc]
theorem nubR_row {r : Rel} {cs : List Int} {k : Nat} {x : List Val} (h : x ∈ nubR ((r.rows.take k).map fun x => valsF r.cols x cs)) : x.length = cs.length := by
  rw [nubR_mem] at h
  obtain ⟨y, _, rfl⟩ := List.mem_map.1 h
  simp [valsF]


def SPj (r : Rel) (cs : List Int) (i : Nat) (H : List HO) : Prop := ∃ c4 J x, c4.length = 2 ∧ H = .box r.cs :: .box [.sl .no (ints' cs)] :: .box c4 :: .box [.sl .no (ints' (projC r cs)), x] :: J ∧ GrowX 4 1 J x (rows' (nubR ((r.rows.take i).map fun x => valsF r.cols x (projC r cs))))
end Go.Proofs.YtjplcdeaedflpaaDoor.PL
