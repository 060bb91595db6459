/- Rows taken out of tables; columns looked for. -/
import Derived.Test.YtgmhmdmfnmlhmaaFFind2
namespace Go.Proofs.Ytgmhmdmfnmlhmaa.PL
open Go.Proofs
set_option linter.unusedVariables false
set_option linter.unusedSimpArgs false
theorem S_col1 (c : Col) (n : ByteArray) (H : List HO) (k : Nat) (hk : H[k]? = some (.box [.str n])) : TS Try.prog 99 [c.av, .ptr k 0] H (pt (.bool (decide (c.name = n))) H) := by
  have hkl := (List.getElem?_eq_some_iff.1 hk).1
  refine TS.dropH ?_ rfl
  refine TS.body mix Try.func99 (by kernel_rfl) rfl (by kernel_rfl) (by simp) ?_
  have hk' : ∀ X : HO, (H ++ [X])[k]? = some (.box [.str n]) := fun X => by rw [List.getElem?_append_left hkl]; exact hk
  simp [hk']
theorem S_idxCol (H : List HO) (f : FuncId) (caps : List AV) (l : List Col) (q : Col → Bool) (hl : l.length < 4611686018427387904) (hq : ∀ x, x ∈ l → TS Try.prog f (x.av :: caps) H (pt (.bool (q x)) H)) : TS Try.prog 98 [.sl .no (avs Col.av l), .fn (.func f) [] caps] H (pt (.int .i64 (match l.findIdx? q with | some i => (i : Int) | none => -1)) H) := by
  refine TS.body mix Try.func98 (by kernel_rfl) rfl (by kernel_rfl) (by simp) ?_
  simp
  refine vc_loop (fun i : Nat => l.length - i) (fun i e H' => e 0 = .sl .no (avs Col.av l) ∧ e 1 = .fn (.func f) [] caps ∧ e 7 = .int .i64 l.length ∧ e 8 = .int .i64 i ∧ i ≤ l.length ∧ (∀ j (h : j < l.length), j < i → q l[j] = false) ∧ H' = H) 0 ?_ ?_
  · simp
  rintro i e H' ⟨h0, h1, h7, h8, hi, hno, rfl⟩
  by_cases hlt : i < l.length
  · have ew := wrap_next hlt (by omega)
    have hqi := hq l[i] (List.getElem_mem hlt)
    simp [h0, h1, h7, h8, hlt]
    refine TS.pt hqi ?_
    simp [h0, h1, h7, h8, hlt]
    refine condK_of (fun c => ?_) (fun c => ?_)
    · have : l.findIdx? q = some i := by
        rw [List.findIdx?_eq_some_iff_getElem]
        exact ⟨hlt, c, fun j hj => by rw [hno j (by omega) hj]; simp⟩
      rw [this]
      simp
    · simp [h0, h1, h7, h8, hlt]
      refine ⟨i + 1, by omega, ew, by omega, fun j h hj => ?_⟩
      rcases Nat.lt_or_ge j i with h2 | h2
      · exact hno j h h2
      · have : j = i := by omega
        subst this; exact c
  · have : i = l.length := by omega
    subst this
    have : l.findIdx? q = none := by
      rw [List.findIdx?_eq_none_iff]
      intro x hx
      obtain ⟨j, hj, rfl⟩ := List.getElem_of_mem hx
      exact hno j hj hj
    rw [this]
    simp [h0, h1, h7, h8]
theorem colIx_find : ∀ (cols : List Col) (n : ByteArray), colIx cols n = cols.findIdx? fun c => decide (c.name = n)
  | [], _ => rfl
  | c :: cs, n => by
    rw [colIx, List.findIdx?_cons, colIx_find cs n]
    by_cases h : c.name = n <;> simp [h]
theorem T_scol (t : Tab) (n : ByteArray) (hl : t.cols.length < 4611686018427387904) : T Try.prog 69 [t.av, .str n] (.tup [.int .i64 (colV t.cols n), .bool (colIx t.cols n).isSome]) := by
  have h := S_idxCol [.box t.cs, .box [.str n]] 99 [.ptr 1 0] t.cols (fun c => decide (c.name = n)) hl fun c _ => S_col1 c n _ 1 rfl
  rw [← colIx_find] at h
  refine T.intro (TS.body mix Try.func69 (by kernel_rfl) rfl (by kernel_rfl) (by simp) ?_)
  simp
  refine TS.pt h ?_
  unfold colV
  cases colIx t.cols n with
  | none => simp
  | some i => simp; omega
instance : Selfs (fun r => AV.sl .no (vals' r)) := ⟨fun a x h => by simp at h; subst h; simp⟩
instance : Selfs Tab.av := ⟨fun a x h => by simp at h; rcases h with rfl | rfl | rfl <;> simp⟩
theorem S_cloneR (H : List HO) (own : Own) (l : List (List Val)) (hl : l.length ≤ 1000) : TS Try.prog 116 [.sl own (rows' l)] H (pt (.sl (ownAt l.length H.length) (rows' l)) (H ++ appJ 0 l.length 1)) := by
  refine TS.exd (TS.body mix Try.func116 (by kernel_rfl) rfl (by kernel_rfl) (by simp) ?_)
  simp
  refine ⟨by simp [isSlT, un_70], ?_⟩
  by_cases h : l = []
  · subst h
    simp
  · simp [h]
    omega
theorem dropAt_eq (l : List (List Val)) (k : Nat) : ∀ i, i ≤ l.length → dropAt l k i = (l.take i).take k ++ (l.take i).drop (k + 1) := by
  intro i
  induction i with
  | zero => simp [dropAt]
  | succ i ih =>
    intro hi
    rw [dropAt, ih (by omega), List.getElem?_eq_getElem (by omega), take_next (by omega)]
    have hl : (l.take i).length = i := by rw [List.length_take]; omega
    dsimp only
    by_cases h : i = k
    · subst h
      rw [if_pos rfl, List.take_append_of_le_length (by omega)]
      simp
      omega
    · rw [if_neg (by omega)]
      by_cases h2 : i < k
      · rw [List.take_of_length_le (l := l.take i) (by omega), List.take_of_length_le (l := l.take i ++ [l[i]]) (by rw [List.length_append, hl, List.length_singleton]; omega), List.drop_of_length_le (l := l.take i) (by omega), List.drop_of_length_le (l := l.take i ++ [l[i]]) (by rw [List.length_append, hl, List.length_singleton]; omega)]
        simp
      · rw [List.take_append_of_le_length (by omega), List.drop_append_of_le_length (by omega), List.append_assoc]
theorem dropAt_out (l : List (List Val)) (n : Int) (h : n < 0 ∨ (l.length : Int) ≤ n) : ∀ i, i ≤ l.length → dropAt l n i = l.take i := by
  intro i
  induction i with
  | zero => simp [dropAt]
  | succ i ih =>
    intro hi
    rw [dropAt, ih (by omega), List.getElem?_eq_getElem (by omega), take_next (by omega)]
    dsimp only
    rw [if_neg (by omega)]
abbrev dropI (l : List (List Val)) (n : Int) : List (List Val) := dropAt l n l.length
theorem T_rowsWithout (l : List (List Val)) (n : Int) (hl : l.length ≤ 1000) : T Try.prog 102 [.sl .no (rows' l), .int .i64 n] (.sl .no (rows' (dropI l n))) := by
  refine T.introF (TS.bodyM [100003, 2000304] mix Try.func102 (by kernel_rfl) rfl (by kernel_rfl) (by simp) ?_)
  by_cases hn : n < 0 ∨ (l.length : Int) ≤ n
  · have e := dropAt_out l n hn l.length (Nat.le_refl _)
    rw [List.take_length] at e
    rw [dropI, e]
    simp
    refine condK_of (fun q => ?_) (fun q => by simp at q; omega)
    simp
    refine TS.pt (S_cloneR [] .no l hl) ?_
    simp
    exact Frz.slN
  · obtain ⟨k, rfl⟩ : ∃ k : Nat, n = k := ⟨n.toNat, by omega⟩
    have e := dropAt_eq l k l.length (Nat.le_refl _)
    rw [List.take_length] at e
    rw [dropI, e]
    have h1 : (k : Int) < l.length := by omega
    have h2 : k < l.length := by omega
    have f := fun own => S_cloneR [] own (l.take k) (by simp; omega)
    have hkl : min k l.length = k := by omega
    have hw : IntKind.i64.wrap ((k : Int) + 1) = ((k + 1 : Nat) : Int) := wrap_next h2 (by omega)
    simp [hkl] at f
    simp [h1, h2, hw, hkl]
    refine condK_of (fun q => by simp at q; omega) (fun q => ?_)
    simp [h1, h2, hw, hkl]
    refine ⟨by omega, TWK.call (f _) ?_⟩
    simp [h1, h2, hw, hkl]
    exact ⟨⟨by omega, by omega⟩, ⟨by omega, by omega⟩, Frz.slN⟩
theorem S_cloneT (H : List HO) (l : List Tab) (hl : l.length ≤ 1000) : TS Try.prog 101 [.sl .no (avs Tab.av l)] H (fun r H' => (l = [] ∧ r = .sl .exact [] ∧ H' = H) ∨ (0 < l.length ∧ r = .mv H.length l.length 3 0 l.length ∧ H' = H ++ [.row l.length 3 ((avs Tab.av l).flatMap AV.cells)])) := by
  refine TS.exd (TS.bodyM [7] mix Try.func101 (by kernel_rfl) rfl (by kernel_rfl) (by simp) ?_)
  simp
  refine ⟨by simp [isSlT, un_67], ?_⟩
  by_cases h : l = []
  · subst h
    simp
  · have : 0 < l.length := List.length_pos_iff.2 h
    simp [h]
    omega
def withT (n : ByteArray) (k : Int) : List Tab → List Tab
  | [] => []
  | t :: ts => if t.name = n then { t with rows := dropI t.rows k } :: ts else t :: withT n k ts
theorem T_without (ts : List Tab) (n : ByteArray) (k : Int) (hl : ts.length ≤ 1000) (hr : ∀ t, t ∈ ts → t.rows.length ≤ 1000) : T Try.prog 73 [.sl .no (avs Tab.av ts), .str n, .int .i64 k] (.sl .no (avs Tab.av (withT n k ts))) := by
  refine T.introF (TS.body mix Try.func73 (by kernel_rfl) rfl (by kernel_rfl) (by simp) ?_)
  simp
  refine (S_cloneT [] ts hl).mono ?_
  rintro r H' (⟨rfl, rfl, rfl⟩ | ⟨h0, rfl, rfl⟩)
  · simp [withT]
    refine vc_rnds 1 ?_
    simp
    exact Frz.slN (f := Tab.av) (l := [])
  · simp
    refine vc_loop (fun i : Nat => ts.length - i) (fun i e H => ∃ J, e 1 = .str n ∧ e 2 = .int .i64 k ∧ e 7 = .mv 0 ts.length 3 0 ts.length ∧ e 12 = .mv 0 ts.length 3 0 ts.length ∧ e 13 = .int .i64 ts.length ∧ e 14 = .int .i64 i ∧ i ≤ ts.length ∧ (withT n k ts = ts.take i ++ withT n k (ts.drop i)) ∧ H = .row ts.length 3 ((avs Tab.av ts).flatMap AV.cells) :: J) 0 ?_ ?_
    · simp
    rintro i e H ⟨J, h1, h2, h7, h12, h13, h14, hi, hw, rfl⟩
    by_cases h : i < ts.length
    · have ew := wrap_next h (by omega)
      have hat := flatA_at (f := Tab.av) ts h
      have hfl := flatA_len (f := Tab.av) ts
      simp only [cells_agg] at hat
      have hd : ts.drop i = ts[i] :: ts.drop (i + 1) := List.drop_eq_getElem_cons h
      rw [hd, withT] at hw
      simp [h1, h2, h7, h12, h13, h14, h, hat, hfl]
      refine ⟨by omega, condK_of (fun q => ?_) (fun q => ?_)⟩
      · simp at q
        rw [if_pos q] at hw
        have f := T_rowsWithout ts[i].rows k (hr _ (List.getElem_mem h))
        simp [h1, h2, h7, h12, h13, h14, h, hat, hfl]
        refine TS.callW f (Dws.self (by simp)) ?_
        simp [h1, h2, h7, h12, h13, h14, h, hat, hfl]
        have hput := flatA_put (f := Tab.av) ts h (k := 2) (new := [.sl .no (rows' (dropI ts[i].rows k))]) (a := { ts[i] with rows := dropI ts[i].rows k }) (by simp) (by simp)
        refine ⟨by omega, ?_⟩
        have hset : withT n k ts = ts.set i { ts[i] with rows := dropI ts[i].rows k } := by
          rw [hw, List.set_eq_take_append_cons_drop, if_pos h]
        rw [hset]
        refine Frz.mvA ?_ (by simp)
        rw [← hput]
        rfl
      · simp at q
        rw [if_neg q] at hw
        simp [h1, h2, h7, h12, h13, h14, h, hat, hfl]
        exact ⟨i + 1, by omega, ew, by omega, by rw [hw, take_next h, List.append_assoc]; rfl⟩
    · have : i = ts.length := by omega
      subst this
      simp [h1, h2, h7, h12, h13, h14]
      rw [List.drop_length, List.take_length, withT, List.append_nil] at hw
      rw [hw]
      exact Frz.mvA rfl rfl
def WI (n : ByteArray) (k : Int) (ts : List Tab) (i : Nat) (L : List Tab) (b : Bool) : Prop := L.length = i ∧ withT n k ts = L ++ (if b = true then ts.drop i else withT n k (ts.drop i))
theorem T_rwithout (ts : List Tab) (n : ByteArray) (k : Int) (hl : ts.length ≤ 1000) (hr : ∀ t, t ∈ ts → t.rows.length ≤ 1000) : T Try.prog 76 [.sl .no (avs Tab.av ts), .str n, .int .i64 k] (.sl .no (avs Tab.av (withT n k ts))) := by
  refine T.introF (TS.body mix Try.func76 (by kernel_rfl) rfl (by kernel_rfl) (by simp) ?_)
  simp
  refine vc_loop (fun i : Nat => ts.length - i) (fun i e H => ∃ (L : List Tab) (b : Bool), e 0 = .sl .no (avs Tab.av ts) ∧ e 1 = .str n ∧ e 2 = .int .i64 k ∧ e 8 = .bool b ∧ e 9 = .int .i64 i ∧ i ≤ ts.length ∧ WI n k ts i L b ∧ Grow1 3 H (e 7) (avs Tab.av L)) 0 ?_ ?_
  · exact ⟨[], false, by simp [Grow1, WI]⟩
  rintro i e H ⟨L, b, h0, h1, h2, h8, h9, hi, ⟨hL, hw⟩, hg⟩
  by_cases h : i < ts.length
  · have ew := wrap_next h (by omega)
    have hd : ts.drop i = ts[i] :: ts.drop (i + 1) := List.drop_eq_getElem_cons h
    have hrr := hr _ (List.getElem_mem h)
    generalize hX : ts[i] = t at *
    simp [h0, h1, h2, h8, h9, h, hX]
    cases hb : (decide (t.name = n) && !b) with
    | true =>
      simp at hb
      obtain ⟨hb1, rfl⟩ := hb
      rw [hd, withT, if_pos hb1] at hw
      have f := T_rwithout04 t.rows k hrr
      simp [hb1, h0, h1, h2, h8, h9, h, hX]
      refine TS.callW f (Dws.self (by simp)) ?_
      rcases hg with ⟨ge, hg⟩ | ⟨j, hg, ht⟩
      · rw [avs_eq_nil] at ge
        simp [hb1, h0, h1, h2, h8, h9, h, hX, hg]
        refine ⟨i + 1, by omega, ew, by omega, L ++ [{ t with rows := dropI t.rows k }], ⟨by simp [hL], by rw [hw]; simp⟩, ?_⟩
        rw [List.append_cons, ← hb1]
        exact Grow1.first (f := Tab.av) ge (by simp)
      · have hjl := (List.getElem?_eq_some_iff.1 ht).1
        have ht' : ∀ X : HO, (H ++ [X])[j]? = some (.spare (avs Tab.av L).length 3) := fun X => by rw [List.getElem?_append_left hjl]; exact ht
        simp at ht'
        simp [hb1, h0, h1, h2, h8, h9, h, hX, hg, ht']
        refine ⟨by omega, i + 1, by omega, ew, by omega, L ++ [{ t with rows := dropI t.rows k }], ⟨by simp [hL], by rw [hw]; simp⟩, ?_⟩
        rw [← hb1]
        have := Grow1.more (f := Tab.av) (l := L) (a := { t with rows := dropI t.rows k }) (n := L.length + 1) (sz := 3) (t := j) (H := H ++ [HO.box [.str t.name, .sl .no (avs Col.av t.cols), .sl .no (rows' (dropI t.rows k))]]) (by rw [List.getElem?_append_left hjl]; exact ht) rfl
        simp only [← avs_append, avs_cons, avs_nil] at this
        first | exact this | (simp; exact this) | (simp only [← avs_append, avs_cons, avs_nil]; exact this)
    | false =>
      have hw2 : WI n k ts (i + 1) (L ++ [t]) b := by
        refine ⟨by simp [hL], ?_⟩
        rw [hw, hd]
        cases b with
        | true => simp
        | false =>
          simp at hb
          simp [withT, hb]
      cases b
      all_goals
        simp [h0, h1, h2, h8, h9, h, hX]
        rcases hg with ⟨ge, hg⟩ | ⟨j, hg, ht⟩
        · rw [avs_eq_nil] at ge
          simp [h0, h1, h2, h8, h9, h, hX, hg]
          refine ⟨i + 1, by omega, ew, by omega, L ++ [t], hw2, ?_⟩
          rw [List.append_cons]
          exact Grow1.first (f := Tab.av) ge (by simp)
        · have hjl := (List.getElem?_eq_some_iff.1 ht).1
          have ht' : ∀ X : HO, (H ++ [X])[j]? = some (.spare (avs Tab.av L).length 3) := fun X => by rw [List.getElem?_append_left hjl]; exact ht
          simp at ht'
          simp [h0, h1, h2, h8, h9, h, hX, hg, ht']
          refine ⟨by omega, i + 1, by omega, ew, by omega, L ++ [t], hw2, ?_⟩
          have := Grow1.more (f := Tab.av) (l := L) (a := t) (n := L.length + 1) (sz := 3) (t := j) (H := H ++ [HO.box t.cs]) (by rw [List.getElem?_append_left hjl]; exact ht) rfl
          simp only [← avs_append, avs_cons, avs_nil] at this
          first | exact this | (simp; exact this) | (simp only [← avs_append, avs_cons, avs_nil]; exact this)
  · have : i = ts.length := by omega
    subst this
    obtain ⟨own, hg⟩ := hg.own
    rw [List.drop_length] at hw
    have : withT n k ts = L := by rw [hw]; cases b <;> simp [withT]
    rw [this]
    simp [h0, h1, h2, h8, h9, hg]
    exact Frz.slN
end Go.Proofs.Ytgmhmdmfnmlhmaa.PL
