/- What finding in tables tells. -/
import Derived.Test.YtgmhmdmfnmlhmaaFSch2
namespace Go.Proofs.Ytgmhmdmfnmlhmaa.PL
open Go.Proofs
set_option linter.unusedVariables false
set_option linter.unusedSimpArgs false
theorem T_find (ts : List Tab) (n : ByteArray) (hl : ts.length < 4611686018427387904) : T Try.prog 67 [.sl .no (avs Tab.av ts), .str n] (.tup [tabO (findT ts n), .bool (findT ts n).isSome]) := by
  refine T.intro (TS.body mix Try.func67 (by kernel_rfl) rfl (by kernel_rfl) (by simp) ?_)
  simp
  refine vc_loop (fun i : Nat => ts.length - i) (fun i e H => e 1 = .str n ∧ e 4 = .ptr 0 0 ∧ e 8 = .sl .no (avs Tab.av ts) ∧ e 9 = .int .i64 ts.length ∧ e 10 = .int .i64 i ∧ i ≤ ts.length ∧ findT ts n = findT (ts.drop i) n ∧ ∃ J, H = .box [.str ByteArray.empty, .sl .exact [], .sl .exact []] :: J) 0 ?_ ?_
  · simp
  rintro i e H ⟨h1, h4, h8, h9, h10, hi, hf, J, rfl⟩
  by_cases h : i < ts.length
  · have hd : ts.drop i = ts[i] :: ts.drop (i + 1) := List.drop_eq_getElem_cons h
    have ew := wrap_next h (by omega)
    rw [hd, findT] at hf
    generalize hX : ts[i] = t at *
    simp [h1, h4, h8, h9, h10, h, hX]
    refine condK_of (fun h5 => ?_) (fun h5 => ?_)
    · simp at h5
      rw [if_pos h5] at hf
      simp [h1, h4, h8, h9, h10, h, hX, hf, tabO]
    · simp at h5
      rw [if_neg h5] at hf
      simp [h1, h4, h8, h9, h10, h, hX]
      exact ⟨i + 1, by omega, ew, by omega, hf⟩
  · have : i = ts.length := by omega
    subst this
    rw [List.drop_length] at hf
    simp [h1, h4, h8, h9, h10, hf, findT, tabO]
def colIx : List Col → ByteArray → Option Nat
  | [], _ => none
  | c :: cs, n => if c.name = n then some 0 else (colIx cs n).map (· + 1)
def colV (cols : List Col) (n : ByteArray) : Int := match colIx cols n with | some i => i | none => 0
theorem colIx_drop {cols : List Col} {n : ByteArray} {i : Nat} (h : i < cols.length) (hne : ¬ cols[i].name = n) : (colIx (cols.drop i) n).map (· + i) = (colIx (cols.drop (i + 1)) n).map (· + (i + 1)) := by
  rw [List.drop_eq_getElem_cons h, colIx, if_neg hne, Option.map_map]
  congr 1
  funext x
  show x + 1 + i = x + (i + 1)
  omega
theorem T_rcol (t : Tab) (n : ByteArray) (hl : t.cols.length < 4611686018427387904) : T Try.prog 70 [t.av, .str n] (.tup [.int .i64 (colV t.cols n), .bool (colIx t.cols n).isSome]) := by
  refine T.intro (TS.body mix Try.func70 (by kernel_rfl) rfl (by kernel_rfl) (by simp) ?_)
  simp
  refine vc_loop (fun i : Nat => t.cols.length - i) (fun i e H => e 1 = .str n ∧ e 2 = .ptr 0 0 ∧ e 6 = .int .i64 i ∧ i ≤ t.cols.length ∧ colIx t.cols n = (colIx (t.cols.drop i) n).map (· + i) ∧ H = [.box t.cs]) 0 ?_ ?_
  · simp
  rintro i e H ⟨h1, h2, h6, hi, hf, rfl⟩
  by_cases h : i < t.cols.length
  · have ew := wrap_next h (by omega)
    have hd : t.cols.drop i = t.cols[i] :: t.cols.drop (i + 1) := List.drop_eq_getElem_cons h
    have hdn := @colIx_drop t.cols n i h
    simp [h1, h2, h6, h]
    refine condK_of (fun h5 => ?_) (fun h5 => ?_)
    · simp at h5
      rw [hd, colIx, if_pos h5] at hf
      simp at hf
      simp [colV, hf, h1, h2, h6, h]
    · simp at h5
      rw [hdn h5] at hf
      simp [h1, h2, h6, h]
      exact ⟨i + 1, by omega, ew, by omega, hf⟩
  · have : i = t.cols.length := by omega
    subst this
    rw [List.drop_length] at hf
    simp [colIx] at hf
    simp [h1, h2, h6, colV, hf]
theorem T_same04 (r : List Val) (hl : r.length < 4611686018427387904) : T Try.prog 115 [rowA r, rowA r] (.bool true) := by
  refine T.intro (TS.body mix Try.func115 (by kernel_rfl) rfl (by kernel_rfl) (by simp) ?_)
  simp
  refine vc_loop (fun i : Nat => r.length - i) (fun i e H => e 0 = rowA r ∧ e 1 = rowA r ∧ e 5 = .int .i64 i ∧ i ≤ r.length) 0 ?_ ?_
  · simp
  rintro i e H ⟨h0, h1, h5, hi⟩
  by_cases h : i < r.length
  · have ew := wrap_next h (by omega)
    simp [h0, h1, h5, h]
    refine TDK.call' (T_rsame r[i] r[i]) (by simp) ?_
    simp [h0, h1, h5, h]
    exact ⟨i + 1, by omega, ew, by omega⟩
  · have : i = r.length := by omega
    subst this
    simp [h0, h1, h5]
theorem T_sameList04 (rs : List (List Val)) (hl : rs.length < 4611686018427387904) (hr : ∀ r, r ∈ rs → r.length < 4611686018427387904) : T Try.prog 100 [.sl .no (rows' rs), .sl .no (rows' rs)] (.bool true) := by
  refine T.intro (TS.body mix Try.func100 (by kernel_rfl) rfl (by kernel_rfl) (by simp) ?_)
  simp
  refine vc_loop (fun i : Nat => rs.length - i) (fun i e H => e 0 = .sl .no (rows' rs) ∧ e 1 = .sl .no (rows' rs) ∧ e 5 = .int .i64 i ∧ i ≤ rs.length) 0 ?_ ?_
  · simp
  rintro i e H ⟨h0, h1, h5, hi⟩
  by_cases h : i < rs.length
  · have ew := wrap_next h (by omega)
    have hm := hr _ (List.getElem_mem h)
    simp [h0, h1, h5, h]
    refine TDK.call' (T_same04 rs[i] hm) (by simp) ?_
    simp [h0, h1, h5, h]
    exact ⟨i + 1, by omega, ew, by omega⟩
  · have : i = rs.length := by omega
    subst this
    simp [h0, h1, h5]
theorem T_sameTab (t : Tab) (hl : t.cols.length < 4611686018427387904) (hl2 : t.rows.length < 4611686018427387904) (hr : ∀ r, r ∈ t.rows → r.length < 4611686018427387904) : T Try.prog 72 [t.av, t.av] (.bool true) := by
  refine T.intro (TS.body mix Try.func72 (by kernel_rfl) rfl (by kernel_rfl) (by simp) ?_)
  simp
  refine GTK.call (fun _ => ⟨T_sameList04 t.rows hl2 hr, by simp⟩) ?_
  simp
  refine vc_loop (fun i : Nat => t.cols.length - i) (fun i e H => e 2 = .ptr 0 0 ∧ e 3 = .ptr 1 0 ∧ e 5 = .int .i64 i ∧ i ≤ t.cols.length ∧ H = [.box t.cs, .box t.cs]) 0 ?_ ?_
  · simp
  rintro i e H ⟨h2, h3, h5, hi, rfl⟩
  by_cases h : i < t.cols.length
  · have ew := wrap_next h (by omega)
    simp [h2, h3, h5, h]
    exact ⟨i + 1, by omega, ew, by omega⟩
  · have : i = t.cols.length := by omega
    subst this
    simp [h2, h3, h5]
theorem T_same05 (ts : List Tab) (hl : ts.length < 4611686018427387904) (ok : ∀ t, t ∈ ts → TabIn t) : T Try.prog 75 [.sl .no (avs Tab.av ts), .sl .no (avs Tab.av ts)] (.bool true) := by
  refine T.intro (TS.body mix Try.func75 (by kernel_rfl) rfl (by kernel_rfl) (by simp) ?_)
  simp
  refine vc_loop (fun i : Nat => ts.length - i) (fun i e H => e 0 = .sl .no (avs Tab.av ts) ∧ e 1 = .sl .no (avs Tab.av ts) ∧ e 5 = .int .i64 i ∧ i ≤ ts.length) 0 ?_ ?_
  · simp
  rintro i e H ⟨h0, h1, h5, hi⟩
  by_cases h : i < ts.length
  · have ew := wrap_next h (by omega)
    have hm := ok _ (List.getElem_mem h)
    have b1 := hm.cols
    have b2 := hm.rows
    simp [h0, h1, h5, h]
    refine TDK.call' (T_sameTab ts[i] (by omega) (by omega) fun r hr => (hm.row r hr).1) (by simp) ?_
    simp [h0, h1, h5, h]
    exact ⟨i + 1, by omega, ew, by omega⟩
  · have : i = ts.length := by omega
    subst this
    simp [h0, h1, h5]
def sizeT (ts : List Tab) : Int := (ts.map fun t => (t.rows.length : Int)).sum
theorem T_size (ts : List Tab) (hl : ts.length ≤ 1000) (ok : ∀ t, t ∈ ts → TabIn t) : T Try.prog 74 [.sl .no (avs Tab.av ts)] (.int .i64 (sizeT ts)) := by
  have hb : ∀ i, i ≤ ts.length → 0 ≤ sizeT (ts.take i) ∧ sizeT (ts.take i) ≤ 140737488355328 * i := by
    intro i
    induction i with
    | zero => intro _; simp [sizeT]
    | succ i ih =>
      intro hi
      have h1 := ih (by omega)
      have h2 := (ok _ (List.getElem_mem (show i < ts.length by omega))).rows
      have h3 : sizeT (ts.take (i + 1)) = sizeT (ts.take i) + (ts[i]'(by omega)).rows.length := by
        unfold sizeT; rw [take_next (by omega), List.map_append, List.sum_append]; simp
      rw [h3]; omega
  have hn : ∀ i (h : i < ts.length), sizeT (ts.take (i + 1)) = sizeT (ts.take i) + ts[i].rows.length := fun i h => by
    unfold sizeT; rw [take_next h, List.map_append, List.sum_append]; simp
  refine T.intro (TS.body mix Try.func74 (by kernel_rfl) rfl (by kernel_rfl) (by simp) ?_)
  simp
  refine vc_loop (fun i : Nat => ts.length - i) (fun i e H => e 3 = .int .i64 (sizeT (ts.take i)) ∧ e 6 = .sl .no (avs Tab.av ts) ∧ e 7 = .int .i64 ts.length ∧ e 8 = .int .i64 i ∧ i ≤ ts.length) 0 ?_ ?_
  · simp [sizeT]
  rintro i e H ⟨h3, h6, h7, h8, hi⟩
  by_cases h : i < ts.length
  · have ew := wrap_next h (by omega)
    have en := hn i h
    have b1 := hb i hi
    have b2 := hb (i + 1) h
    have w : IntKind.i64.wrap (sizeT (ts.take i) + ts[i].rows.length) = sizeT (ts.take (i + 1)) := by rw [← en]; exact wrap_i64 (by omega) (by omega)
    simp [h3, h6, h7, h8, h, w]
    exact ⟨i + 1, by omega, rfl, ew, by omega⟩
  · have : i = ts.length := by omega
    subst this
    rw [List.take_length] at h3
    simp [h3, h6, h7, h8]
end Go.Proofs.Ytgmhmdmfnmlhmaa.PL
