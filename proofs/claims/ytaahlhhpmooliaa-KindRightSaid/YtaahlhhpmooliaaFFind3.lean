/- Rows taken out of tables; columns looked for. -/
import Derived.Test.YtaahlhhpmooliaaFFind2
namespace Go.Proofs.Ytaahlhhpmooliaa.PL
open Go.Proofs
set_option linter.unusedVariables false
set_option linter.unusedSimpArgs false
theorem S_col1 (c : Col) (n : ByteArray) (H : List HO) (k : Nat) (hk : H[k]? = some (.box [.str n])) : TS Try.prog 161 [c.av, .ptr k 0] H (pt (.bool (decide (c.name = n))) H) := by
  have hkl := (List.getElem?_eq_some_iff.1 hk).1
  refine TS.dropH ?_ rfl
  refine TS.body mix Try.func161 (by kernel_rfl) rfl (by kernel_rfl) (by simp) ?_
  have hk' : ∀ X : HO, (H ++ [X])[k]? = some (.box [.str n]) := fun X => by rw [List.getElem?_append_left hkl]; exact hk
  simp [hk']
theorem S_idxCol (H : List HO) (f : FuncId) (caps : List AV) (l : List Col) (q : Col → Bool) (hl : l.length < 4611686018427387904) (hq : ∀ x, x ∈ l → TS Try.prog f (x.av :: caps) H (pt (.bool (q x)) H)) : TS Try.prog 160 [.sl .no (avs Col.av l), .fn (.func f) [] caps] H (pt (.int .i64 (match l.findIdx? q with | some i => (i : Int) | none => -1)) H) := by
  refine TS.body mix Try.func160 (by kernel_rfl) rfl (by kernel_rfl) (by simp) ?_
  simp
  refine vc_loop (fun i : Nat => l.length - i) (fun i e H' => e 0 = .sl .no (avs Col.av l) ∧ e 1 = .fn (.func f) [] caps ∧ e 7 = .int .i64 l.length ∧ e 8 = .int .i64 i ∧ i ≤ l.length ∧ (∀ j (h : j < l.length), j < i → q l[j] = false) ∧ H' = H) 0 ?_ ?_
  · simp
  rintro i e H' ⟨h0, h1, h7, h8, hi, hno, rfl⟩
  by_cases hlt : i < l.length
  · have ew := wrap_next hlt (by omega)
    have hqi := hq l[i] (List.getElem_mem hlt)
    simp [h0, h1, h7, h8, hlt]
    refine TS.pt hqi ?_
    simp [h0, h1, h7, h8, hlt]
    refine condK_of (fun c => ?_) (fun c => ?_)
    · have : l.findIdx? q = some i := by
        rw [List.findIdx?_eq_some_iff_getElem]
        exact ⟨hlt, c, fun j hj => by rw [hno j (by omega) hj]; simp⟩
      rw [this]
      simp
    · simp [h0, h1, h7, h8, hlt]
      refine ⟨i + 1, by omega, ew, by omega, fun j h hj => ?_⟩
      rcases Nat.lt_or_ge j i with h2 | h2
      · exact hno j h h2
      · have : j = i := by omega
        subst this; exact c
  · have : i = l.length := by omega
    subst this
    have : l.findIdx? q = none := by
      rw [List.findIdx?_eq_none_iff]
      intro x hx
      obtain ⟨j, hj, rfl⟩ := List.getElem_of_mem hx
      exact hno j hj hj
    rw [this]
    simp [h0, h1, h7, h8]
theorem colIx_find : ∀ (cols : List Col) (n : ByteArray), colIx cols n = cols.findIdx? fun c => decide (c.name = n)
  | [], _ => rfl
  | c :: cs, n => by
    rw [colIx, List.findIdx?_cons, colIx_find cs n]
    by_cases h : c.name = n <;> simp [h]
theorem T_scol (t : Tab) (n : ByteArray) (hl : t.cols.length < 4611686018427387904) : T Try.prog 149 [t.av, .str n] (.tup [.int .i64 (colV t.cols n), .bool (colIx t.cols n).isSome]) := by
  have h := S_idxCol [.box t.cs, .box [.str n]] 161 [.ptr 1 0] t.cols (fun c => decide (c.name = n)) hl fun c _ => S_col1 c n _ 1 rfl
  rw [← colIx_find] at h
  refine T.intro (TS.body mix Try.func149 (by kernel_rfl) rfl (by kernel_rfl) (by simp) ?_)
  simp
  refine TS.pt h ?_
  unfold colV
  cases colIx t.cols n with
  | none => simp
  | some i => simp; omega
instance : Selfs (fun r => AV.sl .no (vals' r)) := ⟨fun a x h => by simp at h; subst h; simp⟩
instance : Selfs Tab.av := ⟨fun a x h => by simp at h; rcases h with rfl | rfl | rfl <;> simp⟩

theorem dropAt_eq (l : List (List Val)) (k : Nat) : ∀ i, i ≤ l.length → dropAt l k i = (l.take i).take k ++ (l.take i).drop (k + 1) := by
  intro i
  induction i with
  | zero => simp [dropAt]
  | succ i ih =>
    intro hi
    rw [dropAt, ih (by omega), List.getElem?_eq_getElem (by omega), take_next (by omega)]
    have hl : (l.take i).length = i := by rw [List.length_take]; omega
    dsimp only
    by_cases h : i = k
    · subst h
      rw [if_pos rfl, List.take_append_of_le_length (by omega)]
      simp
      omega
    · rw [if_neg (by omega)]
      by_cases h2 : i < k
      · rw [List.take_of_length_le (l := l.take i) (by omega), List.take_of_length_le (l := l.take i ++ [l[i]]) (by rw [List.length_append, hl, List.length_singleton]; omega), List.drop_of_length_le (l := l.take i) (by omega), List.drop_of_length_le (l := l.take i ++ [l[i]]) (by rw [List.length_append, hl, List.length_singleton]; omega)]
        simp
      · rw [List.take_append_of_le_length (by omega), List.drop_append_of_le_length (by omega), List.append_assoc]
theorem dropAt_out (l : List (List Val)) (n : Int) (h : n < 0 ∨ (l.length : Int) ≤ n) : ∀ i, i ≤ l.length → dropAt l n i = l.take i := by
  intro i
  induction i with
  | zero => simp [dropAt]
  | succ i ih =>
    intro hi
    rw [dropAt, ih (by omega), List.getElem?_eq_getElem (by omega), take_next (by omega)]
    dsimp only
    rw [if_neg (by omega)]
abbrev dropI (l : List (List Val)) (n : Int) : List (List Val) := dropAt l n l.length


def withT (n : ByteArray) (k : Int) : List Tab → List Tab
  | [] => []
  | t :: ts => if t.name = n then { t with rows := dropI t.rows k } :: ts else t :: withT n k ts

def WI (n : ByteArray) (k : Int) (ts : List Tab) (i : Nat) (L : List Tab) (b : Bool) : Prop := L.length = i ∧ withT n k ts = L ++ (if b = true then ts.drop i else withT n k (ts.drop i))

end Go.Proofs.Ytaahlhhpmooliaa.PL
