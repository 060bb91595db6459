/- Rows taken out of tables; columns looked for. -/
import Derived.Test.YtjplcdeaedflpaaDoorFFind2
namespace Go.Proofs.YtjplcdeaedflpaaDoor.PL
open Go.Proofs
set_option linter.unusedVariables false
set_option linter.unusedSimpArgs false


theorem colIx_find : ∀ (cols : List Col) (n : ByteArray), colIx cols n = cols.findIdx? fun c => decide (c.name = n)
  | [], _ => rfl
  | c :: cs, n => by
    rw [colIx, List.findIdx?_cons, colIx_find cs n]
    by_cases h : c.name = n <;> simp [h]

instance : Selfs (fun r => AV.sl .no (vals' r)) := ⟨fun a x h => by simp at h; subst h; simp⟩
instance : Selfs Tab.av := ⟨fun a x h => by simp at h; rcases h with rfl | rfl | rfl <;> simp⟩
theorem S_cloneR (H : List HO) (own : Own) (l : List (List Val)) (hl : l.length ≤ 1000) : TS Tryd.prog 34 [.sl own (rows' l)] H (pt (.sl (ownAt l.length H.length) (rows' l)) (H ++ appJ 0 l.length 1)) := by
  refine TS.exd (TS.body mix Tryd.func34 (by kernel_rfl) rfl (by kernel_rfl) (by simp) ?_)
  simp
  refine ⟨by simp [isSlT, un_23], ?_⟩
  by_cases h : l = []
  · subst h
    simp
  · simp [h]
    omega
theorem dropAt_eq (l : List (List Val)) (k : Nat) : ∀ i, i ≤ l.length → dropAt l k i = (l.take i).take k ++ (l.take i).drop (k + 1) := by
  intro i
  induction i with
  | zero => simp [dropAt]
  | succ i ih =>
    intro hi
    rw [dropAt, ih (by omega), List.getElem?_eq_getElem (by omega), take_next (by omega)]
    have hl : (l.take i).length = i := by rw [List.length_take]; omega
    dsimp only
    by_cases h : i = k
    · subst h
      rw [if_pos rfl, List.take_append_of_le_length (by omega)]
      simp
      omega
    · rw [if_neg (by omega)]
      by_cases h2 : i < k
      · rw [List.take_of_length_le (l := l.take i) (by omega), List.take_of_length_le (l := l.take i ++ [l[i]]) (by rw [List.length_append, hl, List.length_singleton]; omega), List.drop_of_length_le (l := l.take i) (by omega), List.drop_of_length_le (l := l.take i ++ [l[i]]) (by rw [List.length_append, hl, List.length_singleton]; omega)]
        simp
      · rw [List.take_append_of_le_length (by omega), List.drop_append_of_le_length (by omega), List.append_assoc]
theorem dropAt_out (l : List (List Val)) (n : Int) (h : n < 0 ∨ (l.length : Int) ≤ n) : ∀ i, i ≤ l.length → dropAt l n i = l.take i := by
  intro i
  induction i with
  | zero => simp [dropAt]
  | succ i ih =>
    intro hi
    rw [dropAt, ih (by omega), List.getElem?_eq_getElem (by omega), take_next (by omega)]
    dsimp only
    rw [if_neg (by omega)]
abbrev dropI (l : List (List Val)) (n : Int) : List (List Val) := dropAt l n l.length


def withT (n : ByteArray) (k : Int) : List Tab → List Tab
  | [] => []
  | t :: ts => if t.name = n then { t with rows := dropI t.rows k } :: ts else t :: withT n k ts

def WI (n : ByteArray) (k : Int) (ts : List Tab) (i : Nat) (L : List Tab) (b : Bool) : Prop := L.length = i ∧ withT n k ts = L ++ (if b = true then ts.drop i else withT n k (ts.drop i))

end Go.Proofs.YtjplcdeaedflpaaDoor.PL
