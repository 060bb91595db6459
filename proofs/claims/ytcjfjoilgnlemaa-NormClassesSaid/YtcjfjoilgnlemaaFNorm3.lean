/- Conditions, by where they are asked: where; the core; columns' numbers. -/
import Derived.Test.YtcjfjoilgnlemaaFNorm2
namespace Go.Proofs.Ytcjfjoilgnlemaa.PL
open Go.Proofs
set_option linter.unusedVariables false
set_option linter.unusedSimpArgs false
/-- a column's number -/
def colN (t c : Int) : Int := if t < 0 ∨ 7 < t ∨ c < 0 ∨ 15 < c then -1 else 16 * t + c
theorem colN_lt (t c : Int) : -1 ≤ colN t c ∧ colN t c < 128 := by unfold colN; split <;> omega
theorem T_rcolumn (t c : Int) : T Try.prog 44 [.int .i64 t, .int .i64 c] (.int .i64 (colN t c)) := by
  refine T.intro (TS.body mix Try.func44 (by kernel_rfl) rfl (by kernel_rfl) (by simp) ?_)
  simp
  refine ⟨fun a b => ⟨a, b⟩, fun a b c => ⟨⟨a, b⟩, c⟩, condK_of (fun h => ?_) (fun h => ?_)⟩
  · simp at h
    have : colN t c = -1 := by unfold colN; rw [if_pos (by omega)]
    simp [this]
  · simp at h
    have h2 : colN t c = 16 * t + c := by unfold colN; rw [if_neg (by omega)]
    have e1 : IntKind.wrap .i64 (16 * t) = 16 * t := wrap_i64 (by omega) (by omega)
    have e2 : IntKind.wrap .i64 (16 * t + c) = 16 * t + c := wrap_i64 (by omega) (by omega)
    simp [e1, e2, h2]
theorem T_ncolumn (t c : Int) : T Try.prog 45 [.int .i64 t, .int .i64 c] (.int .i64 (colN t c)) := by
  refine T.intro (TS.body mix Try.func45 (by kernel_rfl) rfl (by kernel_rfl) (by simp) ?_)
  simp
  refine ⟨fun a b => ⟨a, b⟩, fun a b c => ⟨⟨a, b⟩, c⟩, condK_of (fun h => ?_) (fun h => ?_)⟩
  · simp at h
    have : colN t c = -1 := by unfold colN; rw [if_pos (by omega)]
    simp [this]
  · simp at h
    have h2 : colN t c = 16 * t + c := by unfold colN; rw [if_neg (by omega)]
    have e1 : IntKind.wrap .i64 (t * 16) = 16 * t := by rw [wrap_i64 (by omega) (by omega)]; omega
    have e2 : IntKind.wrap .i64 (16 * t + c) = 16 * t + c := wrap_i64 (by omega) (by omega)
    simp [e1, e2, h2]
def outI (core : Int) (u : Int) : Bool := decide (u < 0) || decide (core ≤ u)
def whereE (core : Int) (e : Ex') : Int := if (usesI e).any (outI core) = true then 1 else if (usesI e).length = 1 then 2 else if isEdge e = true then 3 else 0
theorem T_where (e : Ex') (core : Int) (he : OkE e) (hn : e.nodes ≤ 1000000) : T Try.prog 80 [e.av, .int .i64 core] (.int .i64 (whereE core e)) := by
  have ku := T_ruses e he hn
  have ka := T_rasEdge e he
  have hul := usesI_len e
  have w1 : (usesI e).any (outI core) = true → whereE core e = 1 := fun h => by unfold whereE; rw [if_pos h]
  have w2 : (usesI e).any (outI core) = false → whereE core e = if (usesI e).length = 1 then 2 else if isEdge e = true then 3 else 0 := fun h => by unfold whereE; rw [h]; simp
  obtain ⟨U, hU⟩ : ∃ U, U = usesI e := ⟨_, rfl⟩
  rw [← hU] at ku hul w1 w2
  simp only [Ex'.av_eq] at ku ka
  refine T.intro (TS.body mix Try.func80 (by kernel_rfl) rfl (by kernel_rfl) (by simp) ?_)
  simp
  refine TS.callW ku (Dws.self (by simp)) ?_
  simp
  refine vc_loop (fun i : Nat => U.length - i) (fun i e' H => e' 1 = .int .i64 core ∧ e' 2 = .ptr 0 0 ∧ e' 5 = .sl .no (ints' U) ∧ e' 6 = .int .i64 i ∧ i ≤ U.length ∧ (U.take i).any (outI core) = false ∧ ∃ J, H = .box e.cs :: J) 0 ?_ ?_
  · simp
  rintro i e' H ⟨e1, e2, e5, e6, hi, hno, J, rfl⟩
  by_cases hlt : i < U.length
  · have ew := wrap_next hlt (by omega)
    simp [e1, e2, e5, e6, hlt]
    refine condK_of (fun h => ?_) (fun h => ?_)
    · simp at h
      have : U.any (outI core) = true := any_take hlt (by simp [outI, h])
      rw [w1 this]
      simp
    · simp at h
      simp [e1, e2, e5, e6, hlt]
      refine ⟨i + 1, by omega, ew, by omega, ?_⟩
      have := any_next (q := outI core) hlt hno (by simp [outI]; omega)
      simpa using this
  · have : i = U.length := by omega
    subst this
    rw [List.take_length] at hno
    rw [w2 hno]
    simp [e1, e2, e5, e6]
    refine TS.callW ka (Dws.self (by simp)) ?_
    by_cases hu1 : U.length = 1
    · have hu2 : (U.length : Int) = 1 := by omega
      simp [e1, e2, e5, e6, hu1, hu2]
    · have hu2 : ¬ (U.length : Int) = 1 := by omega
      cases hE : isEdge e <;> simp [e1, e2, e5, e6, hu1, hu2, hE]
/-- how many tables may be put in any order -/
def coreF : List Frm → Nat
  | [] => 0
  | _ :: l => (l.takeWhile fun f => decide (f.kind = 1)).length + 1
theorem tw_len {α : Type} {p : α → Bool} : ∀ {l : List α} {n : Nat}, n ≤ l.length → (∀ j (h : j < l.length), j < n → p l[j] = true) → (∀ h : n < l.length, p l[n] = false) → (l.takeWhile p).length = n
  | [], n, h, _, _ => by simp at h; subst h; rfl
  | x :: l, 0, _, _, h2 => by
    have := h2 (by simp)
    simp at this
    rw [List.takeWhile_cons, this]; rfl
  | x :: l, n + 1, h, h1, h2 => by
    have h0 := h1 0 (by simp) (by omega)
    simp at h0
    rw [List.takeWhile_cons, h0]
    simp
    exact tw_len (by simpa using h) (fun j a b => by have := h1 (j + 1) (by simpa using a) (by omega); rwa [List.getElem_cons_succ] at this) (fun a => by have := h2 (by simpa using a); rwa [List.getElem_cons_succ] at this)
theorem coreF_le (l : List Frm) : coreF l ≤ l.length := by
  cases l with
  | nil => simp [coreF]
  | cons x l =>
    have := (List.takeWhile_prefix (l := l) fun f => decide (f.kind = 1)).length_le
    simp [coreF]; omega
theorem coreF_at {l : List Frm} {n : Nat} (h : n ≤ l.length) (h0 : l ≠ [] → 0 < n) (h1 : ∀ j (h : j < l.length), 0 < j → j < n → l[j].kind = 1) (h2 : ∀ h : n < l.length, ¬ l[n].kind = 1) : coreF l = n := by
  cases l with
  | nil => simp at h; subst h; rfl
  | cons x l =>
    have := h0 (by simp)
    obtain ⟨m, rfl⟩ : ∃ m, n = m + 1 := ⟨n - 1, by omega⟩
    rw [coreF, tw_len (n := m) (by simpa using h) (fun j a b => by have := h1 (j + 1) (by simpa using a) (by omega) (by omega); simpa using this) (fun a => by have := h2 (by simpa using a); simpa using this)]
theorem T_rcore (q : Qry) (hl : q.frm.length < 4611686018427387904) : T Try.prog 37 [q.av] (.int .i64 (coreF q.frm)) := by
  refine T.intro (TS.body mix Try.func37 (by kernel_rfl) rfl (by kernel_rfl) (by simp) ?_)
  simp
  refine vc_loop (fun i : Nat => q.frm.length - i) (fun i e H => e 1 = .ptr 0 0 ∧ e 3 = .int .i64 i ∧ i ≤ q.frm.length ∧ (∀ j (h : j < q.frm.length), 0 < j → j < i → (q.frm[j]).kind = 1) ∧ H = [.box q.cs]) 0 ?_ ?_
  · simp
  rintro i e H ⟨e1, e3, hi, hlo, rfl⟩
  by_cases hlt : i < q.frm.length
  · have ew := wrap_next hlt (by omega)
    have hne : q.frm ≠ [] := by intro h; rw [h] at hlt; simp at hlt
    by_cases h0 : i = 0
    · subst h0
      simp [e1, e3, hlt, hne]
      exact ⟨1, by omega, rfl, by omega, fun j a b c => by omega⟩
    · by_cases hk : (q.frm[i]).kind = 1
      · simp [e1, e3, hlt, h0, hk]
        refine ⟨i + 1, by omega, ew, by omega, fun j a b c => ?_⟩
        rcases Nat.lt_or_ge j i with h | h
        · exact hlo j a b h
        · have : j = i := by omega
          subst this; exact hk
      · rw [coreF_at hi (fun _ => by omega) hlo fun _ => hk]
        simp [e1, e3, hlt, h0, hk]
  · have : i = q.frm.length := by omega
    rw [coreF_at hi (fun h => by rw [this]; exact List.length_pos_iff.2 h) hlo fun h => absurd h hlt]
    by_cases h0 : i = 0
    · subst h0
      simp [e1, e3, hlt]
    · simp [e1, e3, hlt, h0]
end Go.Proofs.Ytcjfjoilgnlemaa.PL
