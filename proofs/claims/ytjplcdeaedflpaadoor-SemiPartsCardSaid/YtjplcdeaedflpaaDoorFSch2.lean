/- What the reference tells of tables, and the law of checks. -/
import Derived.Test.YtjplcdeaedflpaaDoorFSch
namespace Go.Proofs.YtjplcdeaedflpaaDoor.PL
open Go.Proofs
set_option linter.unusedVariables false
set_option linter.unusedSimpArgs false


def muchTL : List Tab → Int → Bool
  | [], _ => false
  | t :: ts, n => if much t.rows = true ∨ 400 < n + t.cols.length + t.rows.length ∨ 100 < t.name.size then true else if (t.cols.any fun c => decide (100 < c.name.size)) = true then true else muchTL ts (n + t.cols.length + t.rows.length)
def muchT (ts : List Tab) : Bool := muchTL (ts.take 20) 0 || decide (18 < ts.length)
structure TabIn (t : Tab) : Prop where
  cols : t.cols.length ≤ 140737488355328
  rows : t.rows.length ≤ 140737488355328
  row : ∀ r, r ∈ t.rows → r.length < 4611686018427387904 ∧ ∀ v, v ∈ r → valIn v
theorem muchTL_no : ∀ {ts : List Tab} {n : Int}, muchTL ts n = false → ∀ t, t ∈ ts → t.name.size ≤ 100 ∧ ∀ c, c ∈ t.cols → c.name.size ≤ 100
  | [], _, _, t, ht => by cases ht
  | u :: ts, n, h, t, ht => by
    unfold muchTL at h
    split at h
    · cases h
    · rename_i h1
      split at h
      · cases h
      · rename_i h2
        rcases List.mem_cons.1 ht with rfl | ht
        · refine ⟨by omega, fun c hc => ?_⟩
          have h3 : (t.cols.any fun c => decide (100 < c.name.size)) = false := by simpa using h2
          rw [List.any_eq_false] at h3
          have := h3 c hc
          simp at this; omega
        · exact muchTL_no h t ht
theorem muchT_no {ts : List Tab} (h : muchT ts = false) : ts.length ≤ 18 ∧ ∀ t, t ∈ ts → t.name.size ≤ 100 ∧ ∀ c, c ∈ t.cols → c.name.size ≤ 100 := by
  unfold muchT at h
  simp at h
  refine ⟨h.2, ?_⟩
  have h1 := h.1
  rw [List.take_of_length_le (by omega)] at h1
  exact muchTL_no h1




end Go.Proofs.YtjplcdeaedflpaaDoor.PL
