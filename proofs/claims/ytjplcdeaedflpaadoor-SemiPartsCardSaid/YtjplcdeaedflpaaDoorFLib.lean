/- What functions of lists of numbers tell. -/
import Derived.Test.YtjplcdeaedflpaaDoorFVal
import Derived.Test.YtjplcdeaedflpaaDoorFGrow
namespace Go.Proofs.YtjplcdeaedflpaaDoor.PL
open Go.Proofs
set_option linter.unusedVariables false
set_option linter.unusedSimpArgs false
/-- slices of plain things that nobody looks into -/
structure PSl where
  xs : List AV
  pl : AV.pls xs = true
attribute [simp] PSl.pl
theorem T_sameList21 (l m : List Int) (hl : l.length < 4611686018427387904) : T Tryd.prog 27 [slA (AV.int .i64) l, slA (AV.int .i64) m] (.bool (decide (l = m))) := by
  refine T.intro (TS.body mix Tryd.func27 (by kernel_rfl) rfl (by kernel_rfl) (by simp) ?_)
  simp
  refine condK_of (fun h => ?_) (fun h => ?_)
  · simp at h
    simp
    rintro rfl
    exact h rfl
  simp at h
  have hlm : l.length = m.length := by omega
  simp
  refine vc_loop (fun i : Nat => l.length - i) (fun i e H => e 0 = slA (AV.int .i64) l ∧ e 1 = slA (AV.int .i64) m ∧ e 5 = .int .i64 i ∧ i ≤ l.length ∧ l.take i = m.take i) 0 ?_ ?_
  · simp
  rintro i e H ⟨h0, h1, h5, hi, ht⟩
  by_cases hlt : i < l.length
  · have hlt' : i < m.length := by omega
    have ew := wrap_next hlt (by omega)
    simp [h0, h1, h5, hlt, hlt']
    refine condK_of (fun q => ?_) (fun q => ?_)
    · simp at q
      simp
      rintro rfl
      exact q rfl
    · simp at q
      simp [h0, h1, h5, hlt, hlt']
      refine ⟨i + 1, by omega, ew, by omega, ?_⟩
      rw [take_next hlt, take_next hlt', ht, q]
  · have : i = l.length := by omega
    subst this
    simp [h0, h1, h5]
    rw [List.take_length, hlm, List.take_length] at ht
    exact ht
/-! what comes in -/
def i64 (n : Int) : Prop := -9223372036854775808 ≤ n ∧ n < 9223372036854775808
theorem reach_lt' : reachBytes ≤ 140737488355328 := by decide
theorem psl_in {t e : TypeId} {b : Bool} {cs : List AV} (h : Sh Tryd.prog t cs) (hu : Tryd.prog.underlying t = some (.slice e)) (hb : aggOf Tryd.prog e = some b) (ht : t ∈ allS) : ∃ p : PSl, cs = [.sl .no p.xs] := by
  have hp := h.pls plain_all ht
  obtain ⟨ys, rfl, _⟩ := h.sl_of hu hb
  exact ⟨⟨_, by simpa [AV.pls, AV.pl] using hp⟩, rfl⟩
theorem ints_in {cs : List AV} (h : Sh Tryd.prog 22 cs) : ∃ l : List Int, cs = [slA (AV.int .i64) l] ∧ (∀ x, x ∈ l → i64 x) ∧ l.length < 4611686018427387904 := by
  obtain ⟨ys, rfl, hy, b⟩ := h.sl_of un_22 ag_3
  obtain ⟨l, e, el, hl⟩ := list_in (f := AV.int .i64) (g := mkAV false) (Q := i64) (fun y hy' => by
    obtain ⟨n, rfl, hn⟩ := (hy y hy').int_of un_3
    exact ⟨n, rfl, i64_wf hn⟩)
  have hb : 1 ≤ Tryd.prog.bytesOf 3 := by decide +kernel
  have hr := reach_lt'
  have := Nat.mul_le_mul_left ys.length hb
  exact ⟨l, by rw [e]; rfl, hl, by omega⟩

/-- the first one for which it is so -/
theorem S_indexFunc (H : List HO) (f : FuncId) (caps : List AV) (l : List Int) (q : Int → Bool) (hl : l.length < 4611686018427387904) (hq : ∀ x, x ∈ l → TS Tryd.prog f (.int .i64 x :: caps) H (pt (.bool (q x)) H)) : TS Tryd.prog 49 [slA (AV.int .i64) l, .fn (.func f) [] caps] H (pt (.int .i64 (match l.findIdx? q with | some i => (i : Int) | none => -1)) H) := by
  refine TS.body mix Tryd.func49 (by kernel_rfl) rfl (by kernel_rfl) (by simp) ?_
  simp
  refine vc_loop (fun i : Nat => l.length - i) (fun i e H' => e 0 = slA (AV.int .i64) l ∧ e 1 = .fn (.func f) [] caps ∧ e 7 = .int .i64 l.length ∧ e 8 = .int .i64 i ∧ i ≤ l.length ∧ (∀ j (h : j < l.length), j < i → q l[j] = false) ∧ H' = H) 0 ?_ ?_
  · simp
  rintro i e H' ⟨h0, h1, h7, h8, hi, hno, rfl⟩
  by_cases hlt : i < l.length
  · have ew := wrap_next hlt (by omega)
    have hqi := hq l[i] (List.getElem_mem hlt)
    simp [h0, h1, h7, h8, hlt]
    refine TS.pt hqi ?_
    simp [h0, h1, h7, h8, hlt]
    refine condK_of (fun c => ?_) (fun c => ?_)
    · have : l.findIdx? q = some i := by
        rw [List.findIdx?_eq_some_iff_getElem]
        exact ⟨hlt, c, fun j hj => by rw [hno j (by omega) hj]; simp⟩
      rw [this]
      simp
    · simp [h0, h1, h7, h8, hlt]
      refine ⟨i + 1, by omega, ew, by omega, fun j h hj => ?_⟩
      rcases Nat.lt_or_ge j i with h2 | h2
      · exact hno j h h2
      · have : j = i := by omega
        subst this; exact c
  · have : i = l.length := by omega
    subst this
    have : l.findIdx? q = none := by
      rw [List.findIdx?_eq_none_iff]
      intro x hx
      obtain ⟨j, hj, rfl⟩ := List.getElem_of_mem hx
      exact hno j hj hj
    rw [this]
    simp [h0, h1, h7, h8]

end Go.Proofs.YtjplcdeaedflpaaDoor.PL
