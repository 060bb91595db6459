/- What finding in tables tells. -/
import Derived.Test.YtaahlhhpmooliaaFSch2
namespace Go.Proofs.Ytaahlhhpmooliaa.PL
open Go.Proofs
set_option linter.unusedVariables false
set_option linter.unusedSimpArgs false
theorem T_find (ts : List Tab) (n : ByteArray) (hl : ts.length < 4611686018427387904) : T Try.prog 125 [.sl .no (avs Tab.av ts), .str n] (.tup [tabO (findT ts n), .bool (findT ts n).isSome]) := by
  refine T.intro (TS.body mix Try.func125 (by kernel_rfl) rfl (by kernel_rfl) (by simp) ?_)
  simp
  refine vc_loop (fun i : Nat => ts.length - i) (fun i e H => e 1 = .str n ∧ e 4 = .ptr 0 0 ∧ e 8 = .sl .no (avs Tab.av ts) ∧ e 9 = .int .i64 ts.length ∧ e 10 = .int .i64 i ∧ i ≤ ts.length ∧ findT ts n = findT (ts.drop i) n ∧ ∃ J, H = .box [.str ByteArray.empty, .sl .exact [], .sl .exact []] :: J) 0 ?_ ?_
  · simp
  rintro i e H ⟨h1, h4, h8, h9, h10, hi, hf, J, rfl⟩
  by_cases h : i < ts.length
  · have hd : ts.drop i = ts[i] :: ts.drop (i + 1) := List.drop_eq_getElem_cons h
    have ew := wrap_next h (by omega)
    rw [hd, findT] at hf
    generalize hX : ts[i] = t at *
    simp [h1, h4, h8, h9, h10, h, hX]
    refine condK_of (fun h5 => ?_) (fun h5 => ?_)
    · simp at h5
      rw [if_pos h5] at hf
      simp [h1, h4, h8, h9, h10, h, hX, hf, tabO]
    · simp at h5
      rw [if_neg h5] at hf
      simp [h1, h4, h8, h9, h10, h, hX]
      exact ⟨i + 1, by omega, ew, by omega, hf⟩
  · have : i = ts.length := by omega
    subst this
    rw [List.drop_length] at hf
    simp [h1, h4, h8, h9, h10, hf, findT, tabO]
def colIx : List Col → ByteArray → Option Nat
  | [], _ => none
  | c :: cs, n => if c.name = n then some 0 else (colIx cs n).map (· + 1)
def colV (cols : List Col) (n : ByteArray) : Int := match colIx cols n with | some i => i | none => 0
theorem colIx_drop {cols : List Col} {n : ByteArray} {i : Nat} (h : i < cols.length) (hne : ¬ cols[i].name = n) : (colIx (cols.drop i) n).map (· + i) = (colIx (cols.drop (i + 1)) n).map (· + (i + 1)) := by
  rw [List.drop_eq_getElem_cons h, colIx, if_neg hne, Option.map_map]
  congr 1
  funext x
  show x + 1 + i = x + (i + 1)
  omega
theorem T_rcol (t : Tab) (n : ByteArray) (hl : t.cols.length < 4611686018427387904) : T Try.prog 129 [t.av, .str n] (.tup [.int .i64 (colV t.cols n), .bool (colIx t.cols n).isSome]) := by
  refine T.intro (TS.body mix Try.func129 (by kernel_rfl) rfl (by kernel_rfl) (by simp) ?_)
  simp
  refine vc_loop (fun i : Nat => t.cols.length - i) (fun i e H => e 1 = .str n ∧ e 2 = .ptr 0 0 ∧ e 6 = .int .i64 i ∧ i ≤ t.cols.length ∧ colIx t.cols n = (colIx (t.cols.drop i) n).map (· + i) ∧ H = [.box t.cs]) 0 ?_ ?_
  · simp
  rintro i e H ⟨h1, h2, h6, hi, hf, rfl⟩
  by_cases h : i < t.cols.length
  · have ew := wrap_next h (by omega)
    have hd : t.cols.drop i = t.cols[i] :: t.cols.drop (i + 1) := List.drop_eq_getElem_cons h
    have hdn := @colIx_drop t.cols n i h
    simp [h1, h2, h6, h]
    refine condK_of (fun h5 => ?_) (fun h5 => ?_)
    · simp at h5
      rw [hd, colIx, if_pos h5] at hf
      simp at hf
      simp [colV, hf, h1, h2, h6, h]
    · simp at h5
      rw [hdn h5] at hf
      simp [h1, h2, h6, h]
      exact ⟨i + 1, by omega, ew, by omega, hf⟩
  · have : i = t.cols.length := by omega
    subst this
    rw [List.drop_length] at hf
    simp [colIx] at hf
    simp [h1, h2, h6, colV, hf]




def sizeT (ts : List Tab) : Int := (ts.map fun t => (t.rows.length : Int)).sum

end Go.Proofs.Ytaahlhhpmooliaa.PL
