/- What finding in tables tells. -/
import Derived.Test.YtjplcdeaedflpaaDoorFSch2
namespace Go.Proofs.YtjplcdeaedflpaaDoor.PL
open Go.Proofs
set_option linter.unusedVariables false
set_option linter.unusedSimpArgs false

def colIx : List Col → ByteArray → Option Nat
  | [], _ => none
  | c :: cs, n => if c.name = n then some 0 else (colIx cs n).map (· + 1)
def colV (cols : List Col) (n : ByteArray) : Int := match colIx cols n with | some i => i | none => 0
theorem colIx_drop {cols : List Col} {n : ByteArray} {i : Nat} (h : i < cols.length) (hne : ¬ cols[i].name = n) : (colIx (cols.drop i) n).map (· + i) = (colIx (cols.drop (i + 1)) n).map (· + (i + 1)) := by
  rw [List.drop_eq_getElem_cons h, colIx, if_neg hne, Option.map_map]
  congr 1
  funext x
  show x + 1 + i = x + (i + 1)
  omega

theorem T_same04 (r : List Val) (hl : r.length < 4611686018427387904) : T Tryd.prog 11 [rowA r, rowA r] (.bool true) := by
  refine T.intro (TS.body mix Tryd.func11 (by kernel_rfl) rfl (by kernel_rfl) (by simp) ?_)
  simp
  refine vc_loop (fun i : Nat => r.length - i) (fun i e H => e 0 = rowA r ∧ e 1 = rowA r ∧ e 5 = .int .i64 i ∧ i ≤ r.length) 0 ?_ ?_
  · simp
  rintro i e H ⟨h0, h1, h5, hi⟩
  by_cases h : i < r.length
  · have ew := wrap_next h (by omega)
    simp [h0, h1, h5, h]
    refine TDK.call' (T_rsame r[i] r[i]) (by simp) ?_
    simp [h0, h1, h5, h]
    exact ⟨i + 1, by omega, ew, by omega⟩
  · have : i = r.length := by omega
    subst this
    simp [h0, h1, h5]
theorem T_sameList04 (rs : List (List Val)) (hl : rs.length < 4611686018427387904) (hr : ∀ r, r ∈ rs → r.length < 4611686018427387904) : T Tryd.prog 28 [.sl .no (rows' rs), .sl .no (rows' rs)] (.bool true) := by
  refine T.intro (TS.body mix Tryd.func28 (by kernel_rfl) rfl (by kernel_rfl) (by simp) ?_)
  simp
  refine vc_loop (fun i : Nat => rs.length - i) (fun i e H => e 0 = .sl .no (rows' rs) ∧ e 1 = .sl .no (rows' rs) ∧ e 5 = .int .i64 i ∧ i ≤ rs.length) 0 ?_ ?_
  · simp
  rintro i e H ⟨h0, h1, h5, hi⟩
  by_cases h : i < rs.length
  · have ew := wrap_next h (by omega)
    have hm := hr _ (List.getElem_mem h)
    simp [h0, h1, h5, h]
    refine TDK.call' (T_same04 rs[i] hm) (by simp) ?_
    simp [h0, h1, h5, h]
    exact ⟨i + 1, by omega, ew, by omega⟩
  · have : i = rs.length := by omega
    subst this
    simp [h0, h1, h5]


def sizeT (ts : List Tab) : Int := (ts.map fun t => (t.rows.length : Int)).sum

end Go.Proofs.YtjplcdeaedflpaaDoor.PL
