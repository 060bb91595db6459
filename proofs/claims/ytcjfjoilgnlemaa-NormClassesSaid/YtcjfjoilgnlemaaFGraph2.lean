/- Numbers that two lists share. -/
import Derived.Test.YtcjfjoilgnlemaaFGraph
namespace Go.Proofs.Ytcjfjoilgnlemaa.PL
open Go.Proofs
set_option linter.unusedVariables false
set_option linter.unusedSimpArgs false
theorem T_indexI (l : List Int) (v : Int) (hl : l.length < 4611686018427387904) : ∃ n : Int, T Try.prog 139 [.sl .no (ints' l), .int .i64 v] (.int .i64 n) ∧ decide (0 ≤ n) = decide (v ∈ l) ∧ n = match l.findIdx? (fun x => decide (x = v)) with | some i => (i : Int) | none => -1 := by
  refine ⟨match l.findIdx? (fun x => decide (x = v)) with | some i => (i : Int) | none => -1, ?_, ?_, rfl⟩
  · refine T.intro (TS.body mix Try.func139 (by kernel_rfl) rfl (by kernel_rfl) (by simp) ?_)
    simp
    refine vc_loop (fun i : Nat => l.length - i) (fun i e H => e 1 = .int .i64 v ∧ e 0 = .sl .no (ints' l) ∧ e 7 = .int .i64 l.length ∧ e 8 = .int .i64 i ∧ i ≤ l.length ∧ (∀ j (h : j < l.length), j < i → ¬ l[j] = v)) 0 ?_ ?_
    · simp
    rintro i e H ⟨h1, h0, h7, h8, hi, hno⟩
    by_cases h : i < l.length
    · simp [h1, h0, h7, h8, h]
      refine condK_of (fun h' => ?_) (fun h' => ?_)
      · simp at h'
        simp
        have : l.findIdx? (fun x => decide (x = v)) = some i := by
          rw [List.findIdx?_eq_some_iff_getElem]
          exact ⟨h, by simp [h'], fun j hj => by simpa using hno j (by omega) hj⟩
        rw [this]
      · simp at h'
        simp [h1, h0, h7, h8]
        refine ⟨i + 1, by omega, wrap_next h (by omega), by omega, fun j hj hji => ?_⟩
        rcases Nat.lt_or_ge j i with h2 | h2
        · exact hno j hj h2
        · have : j = i := by omega
          subst this
          exact fun e => h' e.symm
    · have : i = l.length := by omega
      subst this
      simp [h7, h8]
      have : l.findIdx? (fun x => decide (x = v)) = none := by
        rw [List.findIdx?_eq_none_iff]
        intro x hx
        obtain ⟨j, hj, rfl⟩ := List.getElem_of_mem hx
        simpa using hno j hj hj
      rw [this]
  · cases h : l.findIdx? (fun x => decide (x = v)) with
    | none =>
      rw [List.findIdx?_eq_none_iff] at h
      have : v ∉ l := fun hv => by simpa using h v hv
      simp [this]
    | some i =>
      obtain ⟨h1, h2, _⟩ := List.findIdx?_eq_some_iff_getElem.1 h
      have : v ∈ l := by simp at h2; rw [← h2]; exact List.getElem_mem h1
      simp [this]
theorem T_hasI (l : List Int) (v : Int) (hl : l.length < 4611686018427387904) : T Try.prog 117 [.sl .no (ints' l), .int .i64 v] (.bool (decide (v ∈ l))) := by
  obtain ⟨n, h1, h2, _⟩ := T_indexI l v hl
  refine T.intro (TS.body mix Try.func117 (by kernel_rfl) rfl (by kernel_rfl) (by simp) ?_)
  simp
  refine TS.callW h1 (Dws.self (by simp)) ?_
  simp
  simpa using h2
/-- the first one for which it is so, of a row -/
theorem S_indexMv (H : List HO) (r n : Nat) (f : FuncId) (caps : List AV) (l : List Int) (q : Int → Bool) (hn : l.length = n) (hr : H[r]? = some (.row n 1 (ints' l))) (hl : n < 4611686018427387904) (hq : ∀ x, x ∈ l → TS Try.prog f (.int .i64 x :: caps) H (pt (.bool (q x)) H)) : TS Try.prog 135 [.mv r n 1 0 n, .fn (.func f) [] caps] H (pt (.int .i64 (match l.findIdx? q with | some i => (i : Int) | none => -1)) H) := by
  subst hn
  refine TS.body mix Try.func135 (by kernel_rfl) rfl (by kernel_rfl) (by simp) ?_
  simp
  refine vc_loop (fun i : Nat => l.length - i) (fun i e H' => e 0 = .mv r l.length 1 0 l.length ∧ e 1 = .fn (.func f) [] caps ∧ e 7 = .int .i64 l.length ∧ e 8 = .int .i64 i ∧ i ≤ l.length ∧ (∀ j (h : j < l.length), j < i → q l[j] = false) ∧ H' = H) 0 ?_ ?_
  · simp
  rintro i e H' ⟨h0, h1, h7, h8, hi, hno, rfl⟩
  by_cases hlt : i < l.length
  · have ew := wrap_next hlt (by omega)
    have hqi := hq l[i] (List.getElem_mem hlt)
    simp [h0, h1, h7, h8, hlt, hr]
    refine TS.pt hqi ?_
    simp [h0, h1, h7, h8, hlt]
    refine condK_of (fun c => ?_) (fun c => ?_)
    · have : l.findIdx? q = some i := by
        rw [List.findIdx?_eq_some_iff_getElem]
        exact ⟨hlt, c, fun j hj => by rw [hno j (by omega) hj]; simp⟩
      rw [this]
      simp
    · simp [h0, h1, h7, h8, hlt]
      refine ⟨i + 1, by omega, ew, by omega, fun j h hj => ?_⟩
      rcases Nat.lt_or_ge j i with h2 | h2
      · exact hno j h h2
      · have : j = i := by omega
        subst this; exact c
  · have : i = l.length := by omega
    subst this
    have : l.findIdx? q = none := by
      rw [List.findIdx?_eq_none_iff]
      intro x hx
      obtain ⟨j, hj, rfl⟩ := List.getElem_of_mem hx
      exact hno j hj hj
    rw [this]
    simp [h0, h1, h7, h8]
def keepI (q : Int → Bool) (l : List Int) : List Int := l.filter fun x => !q x
theorem keepI_none {q : Int → Bool} {l : List Int} (h : ∀ j (h : j < l.length), q l[j] = false) : keepI q l = l := by
  unfold keepI
  rw [List.filter_eq_self]
  intro x hx
  obtain ⟨j, hj, rfl⟩ := List.getElem_of_mem hx
  simp [h j hj]
theorem keepI_le {q : Int → Bool} {l : List Int} (i : Nat) : (keepI q (l.take i)).length ≤ i := by
  have := List.length_filter_le (fun x => !q x) (l.take i)
  unfold keepI
  rw [List.length_take] at this
  omega
theorem keepI_next {q : Int → Bool} {l : List Int} {i : Nat} (h : i < l.length) : keepI q (l.take (i + 1)) = keepI q (l.take i) ++ if q l[i] = true then [] else [l[i]] := by
  unfold keepI
  rw [take_next h, List.filter_append]
  by_cases hq : q l[i] = true <;> simp [hq]


def withinI (a b : List Int) : Bool := !(a.any fun v => !decide (v ∈ b))
def sharedI (a b : List Int) : List Int := (setI a).filter fun v => decide (v ∈ b)
theorem sharedI_keep (a b : List Int) : sharedI a b = keepI (fun v => !decide (v ∈ b)) (setI a) := by simp [sharedI, keepI]
theorem rises_filter {q : Int → Bool} {l : List Int} (h : Rises l) : Rises (l.filter q) := List.Pairwise.sublist List.filter_sublist h
theorem sharedI_comm (a b : List Int) : sharedI a b = sharedI b a := by
  refine rises_eq (rises_filter (setI_rises a)) (rises_filter (setI_rises b)) fun x => ?_
  simp [sharedI, List.mem_filter, setI_mem]
  exact And.comm
theorem setI_len (l : List Int) : (setI l).length ≤ l.length := by
  refine nodup_le ?_ fun x hx => setI_mem.1 hx
  exact (setI_rises l).imp fun h => by omega


theorem S_indexNil (H : List HO) (g : AV) : TS Try.prog 135 [.sl .nil [], g] H (pt (.int .i64 (-1)) H) := by
  refine TS.body mix Try.func135 (by kernel_rfl) rfl (by kernel_rfl) (by simp) ?_
  simp
  refine vc_loop (fun i : Nat => 0) (fun i e H' => e 7 = .int .i64 0 ∧ e 8 = .int .i64 0 ∧ H' = H) 0 ?_ ?_
  · simp
  rintro i e H' ⟨h7, h8, rfl⟩
  simp [h7, h8]


end Go.Proofs.Ytcjfjoilgnlemaa.PL
