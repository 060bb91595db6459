/- Conditions, by where they are asked: the same ones. -/
import Derived.Test.YtcjfjoilgnlemaaFNorm5
namespace Go.Proofs.Ytcjfjoilgnlemaa.PL
open Go.Proofs
set_option linter.unusedVariables false
set_option linter.unusedSimpArgs false
theorem T_sameEdges (a : List Edg) (hl : a.length < 4611686018427387904) : T Try.prog 77 [.sl .no (edgs a), .sl .no (edgs a)] (.bool true) := by
  refine T.intro (TS.body mix Try.func77 (by kernel_rfl) rfl (by kernel_rfl) (by simp) ?_)
  simp
  refine vc_loop (fun i : Nat => a.length - i) (fun i e H => e 0 = .sl .no (edgs a) ∧ e 1 = .sl .no (edgs a) ∧ e 5 = .int .i64 i ∧ i ≤ a.length) 0 ?_ ?_
  · simp
  rintro i e H ⟨e0, e1, e5, hi⟩
  by_cases hlt : i < a.length
  · have ew := wrap_next hlt (by omega)
    simp [e0, e1, e5, hlt]
    exact ⟨i + 1, by omega, ew, by omega⟩
  · have : i = a.length := by omega
    subst this
    simp [e0, e1, e5]
structure OkN (n : Nrm) : Prop where
  sc : n.scan.length ≤ 1000000
  sl : ∀ l, l ∈ n.scan → l.length ≤ 1000000 ∧ ∀ x, x ∈ l → OkE x
  ed : n.edges.length ≤ 1000000
  re : n.rest.length ≤ 1000000 ∧ ∀ x, x ∈ n.rest → OkE x
  wh : n.whr.length ≤ 1000000 ∧ ∀ x, x ∈ n.whr → OkE x
  la : n.late.length ≤ 1000000
  lo : ∀ y, y ∈ n.late → y.keys.length ≤ 1000000 ∧ (y.scan.length ≤ 1000000 ∧ ∀ x, x ∈ y.scan → OkE x) ∧ (y.rest.length ≤ 1000000 ∧ ∀ x, x ∈ y.rest → OkE x)
theorem sameE_self {α : Type} (a : α) : sameE a a = true := sameE_iff.2 rfl
theorem T_sameAll1 (l : List Ex') (h : l.length ≤ 1000000 ∧ ∀ x, x ∈ l → OkE x) : T Try.prog 38 [.sl .no (exprs l), .sl .no (exprs l)] (.bool true) := by
  have := T_sameAll l l (by omega) h.2
  rwa [sameE_self] at this
set_option maxRecDepth 8000 in
set_option maxHeartbeats 2000000 in
theorem T_same16 (n : Nrm) (h : OkN n) : T Try.prog 33 [n.av, n.av] (.bool true) := by
  have k1 := T_sameEdges n.edges (by have := h.ed; omega)
  have k2 := T_sameAll1 n.rest h.re
  have k3 := T_sameAll1 n.whr h.wh
  have hsc := h.sc
  have hla := h.la
  refine T.intro (TS.bodyM [300011, 1111200, 1111201, 1111202, 1111203, 1111204, 1111210, 1111211, 1111300, 1111301, 1111302, 1111303, 1111304, 1111305, 1111306, 1111307, 1111308, 1111309, 1111310, 1111311, 1111312] mix Try.func33 (by kernel_rfl) rfl (by kernel_rfl) (by simp) ?_)
  simp
  refine GTK.callW (fun _ => ⟨k1, Dws.self (by simp)⟩) ?_
  simp
  refine GTK.callW (fun _ => ⟨k2, Dws.self (by simp)⟩) ?_
  simp
  refine GTK.callW (fun _ => ⟨k3, Dws.self (by simp)⟩) ?_
  simp
  refine vc_loop (fun i : Nat => n.scan.length - i) (fun i e H => e 2 = .ptr 0 0 ∧ e 3 = .ptr 1 0 ∧ e 5 = .int .i64 i ∧ i ≤ n.scan.length ∧ H = [.box n.cs, .box n.cs]) 0 ?_ ?_
  · simp
  rintro i e H ⟨e2, e3, e5, hi, rfl⟩
  by_cases hlt : i < n.scan.length
  · have ew := wrap_next hlt (by omega)
    have ks := T_sameAll1 n.scan[i] (h.sl _ (List.getElem_mem hlt))
    simp [e2, e3, e5, hlt]
    refine TDK.callW ks (Dws.self (by simp)) ?_
    simp [e2, e3, e5, hlt]
    exact ⟨i + 1, by omega, ew, by omega⟩
  · have : i = n.scan.length := by omega
    subst this
    simp [e2, e3, e5]
    refine vc_loop (fun i : Nat => n.late.length - i) (fun i e H => e 2 = .ptr 0 0 ∧ e 3 = .ptr 1 0 ∧ e 6 = .int .i64 i ∧ i ≤ n.late.length ∧ ∃ J, H = .box n.cs :: .box n.cs :: J) 0 ?_ ?_
    · simp [e2, e3]
    clear e2 e3 e5 e hlt hi
    rintro i e H ⟨e2, e3, e6, hi, J, rfl⟩
    by_cases hlt : i < n.late.length
    · have ew := wrap_next hlt (by omega)
      obtain ⟨o1, o2, o3⟩ := h.lo _ (List.getElem_mem hlt)
      have q1 := T_sameEdges (n.late[i]).keys (by omega)
      have q2 := T_sameAll1 _ o2
      have q3 := T_sameAll1 _ o3
      simp [e2, e3, e6, hlt]
      refine GTK.callW (fun _ => ⟨q1, Dws.self (by simp)⟩) ?_
      simp
      refine GTK.callW (fun _ => ⟨q2, Dws.self (by simp)⟩) ?_
      simp
      refine GTK.callW (fun _ => ⟨q3, Dws.self (by simp)⟩) ?_
      simp [e2, e3, e6, hlt]
      exact ⟨i + 1, by omega, ew, by omega⟩
    · have : i = n.late.length := by omega
      subst this
      simp [e2, e3, e6]
theorem lateK_mem {frm : List Frm} {c : Nat} {y : Lt} : ∀ {k : Nat}, y ∈ lateK frm c k → ∃ f t, f ∈ frm ∧ y = lateF f t
  | 0, h => by simp [lateK] at h
  | k + 1, h => by
    rw [lateK, List.mem_append] at h
    rcases h with h | h
    · exact lateK_mem h
    · split at h
      · rename_i f hf
        rw [List.mem_singleton] at h
        exact ⟨f, _, List.mem_of_getElem? hf, h⟩
      · cases h
theorem normR_ok {q : Qry} (hq : OkQ q) (hs : Smal q) : OkN (normR q) := by
  have hal := allF_len hs
  have hao := allF_ok hq hs
  have hc := coreF_le q.frm
  have h1 := hs.frm
  have fil : ∀ p : Ex' → Bool, ((allF q).filter p).length ≤ 1000000 ∧ ∀ x, x ∈ (allF q).filter p → OkE x := fun p =>
    ⟨by have := List.length_filter_le p (allF q); omega, fun x hx => (hao x (List.mem_filter.1 hx).1).1⟩
  refine ⟨?_, fun l hl => ?_, ?_, fil _, fil _, ?_, fun y hy => ?_⟩
  · simp [normR, scanF]; omega
  · obtain ⟨t, _, rfl⟩ := List.mem_map.1 hl
    exact fil _
  · have := (fil (isWh (coreF q.frm) 3)).1
    simpa [normR] using this
  · have := lateK_len q.frm (coreF q.frm) (q.frm.length - coreF q.frm)
    simp only [normR]
    omega
  · obtain ⟨f, t, hf, rfl⟩ := lateK_mem hy
    have hn := hs.on f hf
    have hp := f.on.parts_len
    have ho := f.on.parts_ok (hq.frm f hf).on
    have fil2 : ∀ p : Ex' → Bool, (f.on.parts.filter p).length ≤ 1000000 ∧ ∀ x, x ∈ f.on.parts.filter p → OkE x := fun p =>
      ⟨by have := List.length_filter_le p f.on.parts; omega, fun x hx => (ho x (List.mem_filter.1 hx).1).1⟩
    refine ⟨?_, fil2 _, fil2 _⟩
    have := (fil2 (isKey t)).1
    simpa [lateF] using this
end Go.Proofs.Ytcjfjoilgnlemaa.PL
