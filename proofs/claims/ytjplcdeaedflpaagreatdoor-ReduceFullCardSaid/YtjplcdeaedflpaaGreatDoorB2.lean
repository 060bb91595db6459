/- Contracts of functions of the program, and plain laws (part 2): Ears, one after the other; Ears: the reference; Trees by their parents: the reference  and parents by ears; Trees by their parents: the way up; slices.SortStableFunc on numbers. -/
import Derived.Test.YtjplcdeaedflpaaGreatDoorB0
import Derived.Test.YtjplcdeaedflpaaGreatDoorB1
namespace Go.Proofs.YtjplcdeaedflpaaGreatDoor.PL
open Go.Proofs
set_option linter.unusedVariables false
set_option linter.unusedSimpArgs false
def earA (e : Nat × Nat) : AV := .agg [.int .i64 (e.1 : Nat), .int .i64 (e.2 : Nat)]
instance : Sized earA 2 := ⟨fun _ => rfl⟩
instance : Plain earA := ⟨fun _ => rfl⟩
instance : Selfs earA := ⟨fun a x h => by simp [earA] at h; rcases h with rfl | rfl <;> simp⟩
/-- the first ear -/
def ear1 (h : List (List Int)) (left : List Bool) : Option (Nat × Nat) := (List.range h.length).findSome? fun i => (earF h left i).map fun p => (i, p)
def playF (h : List (List Int)) : Nat → List Bool → List (Nat × Nat) × List Bool
  | 0, left => ([], left)
  | m + 1, left => match ear1 h left with
    | none => ([], left)
    | some (i, p) => ((i, p) :: (playF h m (left.set i false)).1, (playF h m (left.set i false)).2)
theorem playF_none {h : List (List Int)} {left : List Bool} (hn : ear1 h left = none) : ∀ m, playF h m left = ([], left)
  | 0 => rfl
  | m + 1 => by rw [playF, hn]
theorem findSome_range {α : Type} {q : Nat → Option α} {n k : Nat} {a : α} (hk : k < n) (hq : q k = some a) (hno : ∀ j, j < k → q j = none) : (List.range n).findSome? q = some a := by
  have : List.range n = List.range k ++ (k :: (List.range n).drop (k + 1)) := by
    apply List.ext_getElem?
    intro j
    rcases Nat.lt_or_ge j k with h | h
    · rw [List.getElem?_append_left (by simpa using h)]
      rw [List.getElem?_range h, List.getElem?_range (by omega)]
    · rw [List.getElem?_append_right (by simpa using h)]
      simp only [List.length_range]
      rcases Nat.eq_or_lt_of_le h with h2 | h2
      · subst h2; simp [hk]
      · obtain ⟨d, rfl⟩ : ∃ d, j = k + 1 + d := ⟨j - k - 1, by omega⟩
        rw [show k + 1 + d - k = d + 1 by omega, List.getElem?_cons_succ, List.getElem?_drop]
  rw [this, List.findSome?_append]
  have h0 : (List.range k).findSome? q = none := by
    rw [List.findSome?_eq_none_iff]
    intro x hx
    exact hno x (by simpa using hx)
  rw [h0]
  simp [hq]
theorem findSome_range_none {α : Type} {q : Nat → Option α} {n : Nat} (hno : ∀ j, j < n → q j = none) : (List.range n).findSome? q = none := by
  rw [List.findSome?_eq_none_iff]
  intro x hx
  exact hno x (by simpa using hx)
theorem earF_left {h : List (List Int)} {left : List Bool} {i p : Nat} (he : earF h left i = some p) : left.getD i false = true := by
  unfold earF at he
  split at he
  · assumption
  · cases he
theorem count_set {left : List Bool} {i : Nat} (hi : left.getD i false = true) : left.count true = (left.set i false).count true + 1 := by
  induction left generalizing i with
  | nil => simp at hi
  | cons a l ih =>
    cases i with
    | zero => simp at hi; subst hi; simp
    | succ i =>
      have := ih (i := i) (by simpa using hi)
      simp only [List.set_cons_succ, List.count_cons, this]
      omega
theorem playF_step {h : List (List Int)} {left : List Bool} {i p : Nat} (he : ear1 h left = some (i, p)) (hi : left.getD i false = true) : playF h (left.count true) left = ((i, p) :: (playF h ((left.set i false).count true) (left.set i false)).1, (playF h ((left.set i false).count true) (left.set i false)).2) := by
  rw [count_set hi, playF, he]
/-- all ears, and what is left -/
def playI (h : List (List Int)) : List (Nat × Nat) × List Bool := playF h h.length (List.replicate h.length true)
theorem bools_mv {H : List HO} {id n : Nat} {l : List Bool} (h : H[id]? = some (.row n 1 (bools' l))) (hn : l.length = n) : Frz H (.mv id n 1 0 n) (.sl .no (bools' l)) := by
  have hfl : ∀ l : List Bool, (bools' l).flatMap AV.cells = bools' l := fun l => by induction l with | nil => rfl | cons a l ih => simp
  exact Frz.mvA (f := AV.bool) (sz := 1) (l := l) (by rw [hfl]; exact h) hn
set_option maxRecDepth 4000 in
theorem T_play (h : List (List Int)) (hh : HsOk h) : T Tryz.prog 109 [.sl .no (lists' h)] (.tup [slA earA (playI h).1, slA AV.bool (playI h).2]) := by
  have hn := hh.n
  have hs := hh.s
  have kr := S_repeatB [] true h.length (by omega)
  refine T.introF (TS.body mix Tryz.func109 (by kernel_rfl) rfl (by kernel_rfl) (by simp) ?_)
  simp
  refine SC.jumps mix 0 rfl (fun s : List Bool × List (Nat × Nat) => s.1.count true) (fun s e H => ∃ J, e 0 = .sl .no (lists' h) ∧ e 4 = .mv 0 h.length 1 0 h.length ∧ GrowK 1 2 J (e 5) (avs earA s.2) ∧ H = .row h.length 1 (bools' s.1) :: J ∧ s.1.length = h.length ∧ s.2.length + s.1.count true ≤ h.length ∧ playI h = (s.2 ++ (playF h (s.1.count true) s.1).1, (playF h (s.1.count true) s.1).2)) ?_ ?_
  · simp
    refine TS.pt kr ?_
    simp
    refine ⟨List.replicate h.length true, [], [], GrowK.nil, ⟨rfl, rfl⟩, by simp, by simp, ?_⟩
    simp [playI]
  rintro ⟨left, es⟩ e H ⟨J, e0, e4, hg, rfl, hl, hc, hp⟩
  dsimp only at hg hl hc hp
  simp [e0, e4]
  refine vc_loop (fun k : Nat => h.length - k) (fun k e H => e 0 = .sl .no (lists' h) ∧ e 4 = .mv 0 h.length 1 0 h.length ∧ e 14 = .int .i64 h.length ∧ e 15 = .int .i64 k ∧ k ≤ h.length ∧ (∀ j, j < k → earF h left j = none) ∧ GrowK 1 2 J (e 5) (avs earA es) ∧ H = .row h.length 1 (bools' left) :: J) 0 ?_ ?_
  · simp [e0, e4]
    exact hg
  clear e0 e4 hg e
  rintro k e H ⟨e0, e4, e14, e15, hk, hno, hg, rfl⟩
  by_cases hlt : k < h.length
  · have ew := wrap_next hlt (by omega)
    have ke := T_ear h left k hh (by omega)
    have hei : earI h left k = earF h left k := by unfold earI; rw [if_pos (by omega)]; rfl
    rw [hei] at ke
    simp [e0, e4, e14, e15, hlt]
    refine TS.callF ke (.cons (.cl (by simp)) (.cons (bools_mv rfl hl) (.cons (.cl (by simp)) .nil))) rfl ?_
    cases hq : earF h left k with
    | none =>
      simp [e0, e4, e14, e15, hlt]
      exact ⟨k + 1, by omega, ew, by omega, fun j hj => by
        rcases Nat.lt_or_ge j k with h2 | h2
        · exact hno j h2
        · have : j = k := by omega
          subst this; exact hq, hg⟩
    | some p =>
      have h1 : ear1 h left = some (k, p) := by
        unfold ear1
        exact findSome_range hlt (by rw [hq]; rfl) fun j hj => by rw [hno j hj]; rfl
      have h2 := earF_left hq
      have h3 := playF_step h1 h2
      have h4 := count_set h2
      rw [h3] at hp
      dsimp only at hp
      have e1 : avs AV.bool (left.take k ++ false :: left.drop (k + 1)) = bools' (left.set k false) := by
        rw [List.set_eq_take_append_cons_drop, if_pos (by omega)]
      rcases hg with ⟨ge, hg⟩ | ⟨t, hg, ht⟩
      · rw [avs_eq_nil] at ge
        subst ge
        simp [e0, e4, e14, e15, hlt, hg]
        refine ⟨by omega, left.set k false, by omega, [(k, p)], _, GrowK.first (f := earA) (l := []) (a := (k, p)) rfl rfl, ⟨e1, rfl⟩, by simp [hl], by simp at hc ⊢; omega, by simpa using hp⟩
      · simp [e0, e4, e14, e15, hlt, hg, ht]
        refine ⟨⟨by omega, by omega⟩, by omega, left.set k false, by omega, es ++ [(k, p)], _, ?_, ⟨e1, rfl⟩, by simp [hl], by simp; omega, by simpa using hp⟩
        have := GrowK.more (f := earA) (q := 1) (l := es) (a := (k, p)) (n := es.length + 1) ht rfl
        rw [← avs_append, avs_cons, avs_nil] at this
        rw [← avs_append, avs_cons, avs_nil]
        exact this
  · have : k = h.length := by omega
    subst this
    have h1 : ear1 h left = none := findSome_range_none fun j hj => by rw [hno j hj]; rfl
    rw [playF_none h1] at hp
    simp only [List.append_nil] at hp
    simp [e0, e4, e14, e15]
    rw [hp]
    refine .tup (.cons ?_ (.cons (bools_mv rfl hl) .nil))
    obtain ⟨own, ho⟩ := hg.own
    rw [ho]
    exact Frz.slN
theorem playI_len (h : List (List Int)) : (playI h).2.length = h.length ∧ (playI h).1.length ≤ h.length := by
  have : ∀ m left, (playF h m left).2.length = left.length ∧ (playF h m left).1.length ≤ m := by
    intro m
    induction m with
    | zero => intro left; simp [playF]
    | succ m ih =>
      intro left
      rw [playF]
      cases hq : ear1 h left with
      | none => simp
      | some x =>
        obtain ⟨i, p⟩ := x
        have := ih (left.set i false)
        simp at this ⊢
        omega
  have := this h.length (List.replicate h.length true)
  simpa [playI] using this
theorem T_ears (h : List (List Int)) (hh : HsOk h) : T Tryz.prog 78 [.sl .no (lists' h)] (slA earA (playI h).1) := by
  have k := T_play h hh
  refine T.intro (TS.body mix Tryz.func78 (by kernel_rfl) rfl (by kernel_rfl) (by simp) ?_)
  simp
  refine TS.callW k (Dws.self (by simp)) ?_
  simp
/-- the places of what is left -/
def restI (left : List Bool) : List Int := ((List.range left.length).filter fun k => left.getD k false).map fun (k : Nat) => (k : Int)
def restN (left : List Bool) (m : Nat) : List Int := ((List.range m).filter fun k => left.getD k false).map fun (k : Nat) => (k : Int)
theorem restN_next (left : List Bool) (m : Nat) : restN left (m + 1) = restN left m ++ if left.getD m false = true then [(m : Int)] else [] := by
  unfold restN
  rw [List.range_succ, List.filter_append, List.map_append]
  by_cases h : left.getD m false = true
  · rw [if_pos h]; congr 1; simp only [List.filter_cons, List.filter_nil, h, if_true]; rfl
  · rw [if_neg h]; congr 1; simp only [List.filter_cons, List.filter_nil, h]; rfl
theorem restN_len (left : List Bool) (m : Nat) : (restN left m).length ≤ m := by
  unfold restN
  rw [List.length_map]
  exact Nat.le_trans (List.length_filter_le _ _) (by simp)
set_option maxRecDepth 4000 in
theorem T_left (h : List (List Int)) (hh : HsOk h) : T Tryz.prog 107 [.sl .no (lists' h)] (.sl .no (ints' (restI (playI h).2))) := by
  have k := T_play h hh
  have hn := hh.n
  have hl := (playI_len h).1
  obtain ⟨L, hL⟩ : ∃ L, L = (playI h).2 := ⟨_, rfl⟩
  obtain ⟨E, hE⟩ : ∃ E, E = (playI h).1 := ⟨_, rfl⟩
  rw [← hL, ← hE] at k
  rw [← hL] at hl ⊢
  refine T.introF (TS.body mix Tryz.func107 (by kernel_rfl) rfl (by kernel_rfl) (by simp) ?_)
  simp
  refine TS.callW k (Dws.self (by simp)) ?_
  simp
  refine vc_loop (fun k : Nat => L.length - k) (fun k e H => e 13 = .sl .no (bools' L) ∧ e 14 = .int .i64 L.length ∧ e 15 = .int .i64 k ∧ k ≤ L.length ∧ Grow1 1 H (e 5) (ints' (restN L k))) 0 ?_ ?_
  · simp
    exact .inl ⟨rfl, rfl⟩
  rintro k e H ⟨e13, e14, e15, hk, hg⟩
  by_cases hlt : k < L.length
  · have ew := wrap_next hlt (by omega)
    have hnx := restN_next L k
    have hrl := restN_len L k
    have hgk : L.getD k false = L[k] := by simp [hlt]
    cases hq : L[k] with
    | false =>
      rw [hgk, hq] at hnx
      simp at hnx
      simp [e13, e14, e15, hlt, hq]
      exact ⟨k + 1, by omega, ew, by omega, by rw [hnx]; exact hg⟩
    | true =>
      rw [hgk, hq, if_pos rfl] at hnx
      rcases hg with ⟨ge, hg⟩ | ⟨t, hg, ht⟩
      · rw [avs_eq_nil] at ge
        simp [e13, e14, e15, hlt, hq, hg]
        refine ⟨k + 1, by omega, ew, by omega, ?_⟩
        rw [hnx, ge]
        exact Grow1.first (f := AV.int .i64) (l := []) rfl rfl
      · simp [e13, e14, e15, hlt, hq, hg, ht]
        refine ⟨⟨by omega, by omega⟩, k + 1, by omega, ew, by omega, ?_⟩
        rw [hnx]
        have := Grow1.more (f := AV.int .i64) (l := restN L k) (a := (k : Int)) (n := (restN L k).length + 1) ht rfl
        exact this
  · have : k = L.length := by omega
    subst this
    simp [e13, e14, e15]
    obtain ⟨own, ho⟩ := hg.own
    rw [ho]
    exact Frz.slN
def acyI (h : List (List Int)) : Bool := decide ((restI (playI h).2).length ≤ 1)
theorem T_gacyc (h : List (List Int)) (hh : HsOk h) : T Tryz.prog 76 [.sl .no (lists' h)] (.bool (acyI h)) := by
  have k := T_left h hh
  have hn := hh.n
  have hl := (playI_len h).1
  have hrl := restN_len (playI h).2 (playI h).2.length
  have : restN (playI h).2 (playI h).2.length = restI (playI h).2 := rfl
  rw [this] at hrl
  refine T.intro (TS.body mix Tryz.func76 (by kernel_rfl) rfl (by kernel_rfl) (by simp) ?_)
  simp
  refine TS.callW k (Dws.self (by simp)) ?_
  simp [acyI]
  omega
end Go.Proofs.YtjplcdeaedflpaaGreatDoor.PL
namespace Go.Proofs.YtjplcdeaedflpaaGreatDoor.PL
open Go.Proofs
set_option linter.unusedVariables false
set_option linter.unusedSimpArgs false
theorem withinI_iff {a b : List Int} : withinI a b = true ↔ ∀ v, v ∈ a → v ∈ b := by
  unfold withinI
  simp
theorem sharedI_mem {a b : List Int} {v : Int} : v ∈ sharedI a b ↔ v ∈ a ∧ v ∈ b := by
  unfold sharedI
  simp [List.mem_filter, setI_mem]
theorem outP_mem {h : List (List Int)} {left : List Bool} {i : Nat} {v : Int} : ∀ {n : Nat}, v ∈ outP h left i n ↔ ∃ k, k < n ∧ k ≠ i ∧ left.getD k false = true ∧ v ∈ sharedI (h.getD i []) (h.getD k [])
  | 0 => by simp [outP]
  | n + 1 => by
    rw [outP, List.mem_append, outP_mem (n := n)]
    constructor
    · rintro (⟨k, h1, h2⟩ | h1)
      · exact ⟨k, by omega, h2⟩
      · split at h1
        · rename_i hc; exact ⟨n, by omega, hc.1, hc.2, h1⟩
        · cases h1
    · rintro ⟨k, h1, h2, h3, h4⟩
      rcases Nat.lt_or_ge k n with h5 | h5
      · exact .inl ⟨k, h5, h2, h3, h4⟩
      · have : k = n := by omega
        subst this
        rw [if_pos ⟨h2, h3⟩]
        exact .inr h4
end Go.Proofs.YtjplcdeaedflpaaGreatDoor.PL
namespace Go.Proofs.YtjplcdeaedflpaaGreatDoor.PL
open Go.Proofs
set_option linter.unusedVariables false
set_option linter.unusedSimpArgs false
/-- the way up, of so many steps at most -/
def upF (ps : List Int) : Nat → Int → List Int
  | 0, _ => []
  | m + 1, i => if 0 ≤ i ∧ i < ps.length then i :: upF ps m (ps.getD i.toNat 0) else []
def upI (ps : List Int) (i : Int) : List Int := upF ps ps.length i
theorem upF_mem {ps : List Int} : ∀ {m : Nat} {i : Int} {x : Int}, x ∈ upF ps m i → 0 ≤ x ∧ x < ps.length
  | 0, i, x, h => by cases h
  | m + 1, i, x, h => by
    rw [upF] at h
    split at h
    · rename_i hc
      rcases List.mem_cons.1 h with rfl | h
      · exact hc
      · exact upF_mem h
    · cases h
theorem upF_len {ps : List Int} : ∀ (m : Nat) (i : Int), (upF ps m i).length ≤ m
  | 0, i => by simp [upF]
  | m + 1, i => by
    rw [upF]
    split
    · have := upF_len (ps := ps) m (ps.getD i.toNat 0)
      rw [List.length_cons]; omega
    · simp
set_option maxRecDepth 4000 in
theorem T_rup (ps : List Int) (i : Int) (hl : ps.length ≤ 1000000) : T Tryz.prog 71 [.sl .no (ints' ps), .int .i64 i] (.sl .no (ints' (upI ps i))) := by
  refine T.introF (TS.body mix Tryz.func71 (by kernel_rfl) rfl (by kernel_rfl) (by simp) ?_)
  simp
  refine vc_loop (fun n : Nat => ps.length - n) (fun n e H => ∃ (A : List Int) (c : Int), e 0 = .sl .no (ints' ps) ∧ e 1 = .int .i64 c ∧ e 6 = .int .i64 n ∧ n ≤ ps.length ∧ A.length = n ∧ Grow1 1 H (e 5) (ints' A) ∧ upI ps i = A ++ upF ps (ps.length - n) c) 0 ?_ ?_
  · exact ⟨[], i, by simp, by simp, by simp, Nat.zero_le _, rfl, .inl ⟨rfl, by simp⟩, by simp [upI]⟩
  rintro n e H ⟨A, c, e0, e1, e6, hn, hA, hg, hu⟩
  by_cases hlt : n < ps.length
  · have ew := wrap_next hlt (by omega)
    obtain ⟨m, hm⟩ : ∃ m, ps.length - n = m + 1 := ⟨ps.length - n - 1, by omega⟩
    have hm2 : ps.length - (n + 1) = m := by omega
    by_cases hc : 0 ≤ c ∧ c < ps.length
    · obtain ⟨k, rfl⟩ : ∃ k : Nat, c = k := ⟨c.toNat, by omega⟩
      have hk : k < ps.length := by omega
      rw [hm, upF, if_pos hc] at hu
      have hgk : ps.getD (k : Int).toNat 0 = ps[k] := by simp [hk]
      rw [hgk] at hu
      rcases hg with ⟨ge, hg⟩ | ⟨t, hg, ht⟩
      · rw [avs_eq_nil] at ge
        subst ge
        simp [e0, e1, e6, hlt, hk, hg]
        refine ⟨n + 1, by omega, ew, by omega, [(k : Int)], by simp at hA ⊢; omega, Grow1.first (f := AV.int .i64) (l := []) rfl rfl, ?_⟩
        rw [hu, hm2]; rfl
      · simp [e0, e1, e6, hlt, hk, hg, ht]
        refine ⟨⟨by omega, by omega⟩, n + 1, by omega, ew, by omega, A ++ [(k : Int)], by simp [hA], Grow1.more (f := AV.int .i64) (l := A) (a := (k : Int)) (n := A.length + 1) ht rfl, ?_⟩
        rw [hu, hm2]; simp
    · rw [hm, upF, if_neg hc, List.append_nil] at hu
      rw [hu]
      by_cases h1 : 0 ≤ c
      · have h2 : ¬ c < ps.length := fun h => hc ⟨h1, h⟩
        simp [e0, e1, e6, hlt, h1, h2]
        obtain ⟨own, ho⟩ := hg.own
        rw [ho]
        exact Frz.slN
      · simp [e0, e1, e6, hlt, h1]
        obtain ⟨own, ho⟩ := hg.own
        rw [ho]
        exact Frz.slN
  · have : n = ps.length := by omega
    rw [this, Nat.sub_self, upF, List.append_nil] at hu
    rw [hu]
    simp [e0, e1, e6, hlt]
    obtain ⟨own, ho⟩ := hg.own
    rw [ho]
    exact Frz.slN
def endOk (ps : List Int) (i : Nat) : Bool := decide (ps.getD ((upI ps i).getLast?.getD 0).toNat 0 = -1)
def treeI (ps : List Int) : Bool := (List.range ps.length).all (endOk ps) && (decide (ps.length = 0) || decide (ps.count (-1) = 1))
theorem upI_ne {ps : List Int} {i : Nat} (h : i < ps.length) : upI ps i ≠ [] := by
  unfold upI
  obtain ⟨m, hm⟩ : ∃ m, ps.length = m + 1 := ⟨ps.length - 1, by omega⟩
  have hc : 0 ≤ (i : Int) ∧ (i : Int) < ps.length := ⟨by omega, by omega⟩
  rw [hm, upF, if_pos hc]
  simp
theorem count_next {l : List Int} {i : Nat} (h : i < l.length) (a : Int) : (l.take (i + 1)).count a = (l.take i).count a + if l[i] = a then 1 else 0 := by
  rw [take_next h, List.count_append]
  by_cases c : l[i] = a <;> simp [c]
theorem all_range {q : Nat → Bool} {n : Nat} (h : ∀ j, j < n → q j = true) : (List.range n).all q = true := by
  rw [List.all_eq_true]
  intro x hx
  exact h x (by simpa using hx)
theorem all_range_no {q : Nat → Bool} {n j : Nat} (hj : j < n) (h : q j = false) : (List.range n).all q = false := by
  rw [List.all_eq_false]
  exact ⟨j, by simpa using hj, by simp [h]⟩
set_option maxRecDepth 4000 in
theorem T_rtree (ps : List Int) (hl : ps.length ≤ 1000000) : T Tryz.prog 33 [.sl .no (ints' ps)] (.bool (treeI ps)) := by
  refine T.intro (TS.body mix Tryz.func33 (by kernel_rfl) rfl (by kernel_rfl) (by simp) ?_)
  simp
  refine vc_loop (fun i : Nat => ps.length - i) (fun i e H => e 0 = .sl .no (ints' ps) ∧ e 3 = .int .i64 ((ps.take i).count (-1) : Nat) ∧ e 4 = .int .i64 i ∧ i ≤ ps.length ∧ ∀ j, j < i → endOk ps j = true) 0 ?_ ?_
  · simp
  rintro i e H ⟨e0, e3, e4, hi, hno⟩
  by_cases hlt : i < ps.length
  · have ew := wrap_next hlt (by omega)
    have ku := T_rup ps i hl
    have hne := upI_ne hlt
    have hmem : ∀ x, x ∈ upI ps i → 0 ≤ x ∧ x < ps.length := fun x hx => upF_mem hx
    have hul : (upI ps i).length ≤ ps.length := upF_len _ _
    have hq : endOk ps i = decide (ps.getD ((upI ps i).getLast?.getD 0).toNat 0 = -1) := rfl
    generalize upI ps i = U at *
    have hU : 0 < U.length := List.length_pos_iff.2 hne
    have hlast : U.getLast?.getD 0 = U[U.length - 1] := by
      rw [List.getLast?_eq_getElem?, List.getElem?_eq_getElem (by omega)]; rfl
    rw [hlast] at hq
    have hm2 := hmem _ (List.getElem_mem (l := U) (n := U.length - 1) (by omega))
    obtain ⟨k, hk⟩ : ∃ k : Nat, U[U.length - 1] = (k : Int) := ⟨(U[U.length - 1]).toNat, by omega⟩
    rw [hk] at hq hm2
    have hkl : k < ps.length := by omega
    have hgk : ps.getD (k : Int).toNat 0 = ps[k] := by simp [hkl]
    rw [hgk] at hq
    have ew1 : IntKind.i64.wrap ((U.length : Int) - 1) = ((U.length - 1 : Nat) : Int) := by rw [wrap_i64 (by omega) (by omega)]; omega
    have hlt2 : U.length - 1 < U.length := by omega
    have hcn := count_next hlt (-1)
    have hcl : (ps.take i).count (-1) ≤ i := Nat.le_trans List.count_le_length (by simp; omega)
    have ew2 : IntKind.i64.wrap (((ps.take i).count (-1) : Nat) + 1 : Int) = (((ps.take i).count (-1) + 1 : Nat) : Int) := by rw [wrap_i64 (by omega) (by omega)]; omega
    simp [e0, e3, e4, hlt]
    refine TS.callW ku (Dws.self (by simp)) ?_
    simp [e0, e3, e4, hlt, ew1, hlt2, hk, hkl]
    refine condK_of (fun c => ?_) (fun c => ?_)
    · have : treeI ps = false := by
        unfold treeI
        rw [all_range_no hlt (by rw [hq]; simpa using c), Bool.false_and]
      rw [this]
      simp
    · have c1 : ps[k] = -1 := by simpa using c
      have hno2 : ∀ j, j < i + 1 → endOk ps j = true := by
        intro j hj
        rcases Nat.lt_or_ge j i with h2 | h2
        · exact hno j h2
        · have : j = i := by omega
          subst this; rw [hq]; simpa using c1
      by_cases c2 : ps[i] = -1
      · rw [if_pos c2] at hcn
        simp [e0, e3, e4, hlt, c2]
        exact ⟨i + 1, by omega, by rw [hcn]; exact ew2, ew, by omega, hno2⟩
      · rw [if_neg c2] at hcn
        simp [e0, e3, e4, hlt, c2]
        exact ⟨i + 1, by omega, by rw [hcn]; rfl, ew, by omega, hno2⟩
  · have : i = ps.length := by omega
    subst this
    rw [List.take_length] at e3
    have : treeI ps = (decide (ps.length = 0) || decide (ps.count (-1) = 1)) := by
      unfold treeI
      rw [all_range hno, Bool.true_and]
    rw [this]
    by_cases c0 : ps.length = 0
    · have := List.eq_nil_of_length_eq_zero c0
      subst this
      simp at e0 e3 e4
      simp [e0, e3, e4]
    · have c1 : ¬ (ps.length : Int) = 0 := by omega
      have c2 : ¬ ps = [] := fun h => c0 (by rw [h]; rfl)
      simp [e0, e3, e4, c1, c2]
      try omega
end Go.Proofs.YtjplcdeaedflpaaGreatDoor.PL
namespace Go.Proofs.YtjplcdeaedflpaaGreatDoor.PL
open Go.Proofs
set_option linter.unusedVariables false
set_option linter.unusedSimpArgs false
/-- the nodes that are handed on, till one is told to be the last -/
def climbF (ps : List Int) (go : Int → Bool) : Nat → Int → List Int
  | 0, _ => []
  | m + 1, i => if 0 ≤ i ∧ i < ps.length then i :: (if go i = true then climbF ps go m (ps.getD i.toNat 0) else []) else []
theorem climb_all {ps : List Int} : ∀ (m : Nat) (i : Int), climbF ps (fun _ => true) m i = upF ps m i
  | 0, i => rfl
  | m + 1, i => by rw [climbF, upF, if_pos rfl, climb_all m]
def isEnd (ps : List Int) (x : Int) : Bool := decide (ps.getD x.toNat 0 = -1)
theorem climb_end {ps : List Int} : ∀ (m : Nat) (i : Int), climbF ps (fun x => !isEnd ps x) m i = upF ps m i
  | 0, i => rfl
  | m + 1, i => by
    rw [climbF, upF, climb_end m]
    cases h : isEnd ps i with
    | false => simp
    | true =>
      have h1 : ps.getD i.toNat 0 = -1 := by unfold isEnd at h; simpa using h
      rw [h1]
      have : upF ps m (-1) = [] := by cases m with | zero => rfl | succ m => rw [upF, if_neg (by omega)]
      rw [this]
      simp
theorem S_climb (ps : List Int) (i : Int) (f : FuncId) (caps : List AV) (go : Int → Bool) (Inv : List Int → List HO → Prop) (H : List HO) (h0 : Inv [] H) (hl : ps.length ≤ 1000000)
    (hf : ∀ (A : List Int) (x : Nat) (H : List HO), x < ps.length → A.length < ps.length → Inv A H → TS Tryz.prog f (.int .i64 (x : Int) :: caps) H (fun r H' => r = .bool (go x) ∧ Inv (A ++ [(x : Int)]) H')) :
    TS Tryz.prog 136 [.sl .no (ints' ps), .int .i64 i, .fn (.func f) [] caps] H (fun r H' => r = .tup [] ∧ Inv (climbF ps go ps.length i) H') := by
  refine TS.body mix Tryz.func136 (by kernel_rfl) rfl (by kernel_rfl) (by simp) ?_
  simp
  refine vc_loop (fun n : Nat => ps.length - n) (fun n e H => ∃ (A : List Int) (c : Int), e 0 = .sl .no (ints' ps) ∧ e 1 = .int .i64 c ∧ e 2 = .fn (.func f) [] caps ∧ e 7 = .int .i64 ps.length ∧ e 8 = .int .i64 n ∧ n ≤ ps.length ∧ A.length = n ∧ Inv A H ∧ climbF ps go ps.length i = A ++ climbF ps go (ps.length - n) c) 0 ?_ ?_
  · exact ⟨[], i, by simp, by simp, by simp, by simp, by simp, Nat.zero_le _, rfl, h0, by simp⟩
  rintro n e H ⟨A, c, e0, e1, e2, e7, e8, hn, hA, hI, hu⟩
  by_cases hlt : n < ps.length
  · have ew := wrap_next hlt (by omega)
    obtain ⟨m, hm⟩ : ∃ m, ps.length - n = m + 1 := ⟨ps.length - n - 1, by omega⟩
    have hm2 : ps.length - (n + 1) = m := by omega
    by_cases hc : 0 ≤ c ∧ c < ps.length
    · obtain ⟨k, rfl⟩ : ∃ k : Nat, c = k := ⟨c.toNat, by omega⟩
      have hk : k < ps.length := by omega
      have hk0 : ¬ (k : Int) < 0 := by omega
      have hk1 : ¬ ps.length ≤ k := by omega
      rw [hm, climbF, if_pos hc] at hu
      have hgk : ps.getD (k : Int).toNat 0 = ps[k] := by simp [hk]
      rw [hgk] at hu
      have kf := hf A k H hk (by omega) hI
      simp [e0, e1, e2, e7, e8, hlt, hk0, hk1]
      refine GTK.yes (kf.mono ?_)
      rintro _ H' ⟨rfl, hI'⟩
      cases hg : go (k : Int) with
      | true =>
        rw [hg, if_pos rfl] at hu
        simp [e0, e1, e2, e7, e8, hlt, hk]
        exact ⟨n + 1, by omega, ew, by omega, A ++ [(k : Int)], by simp [hA], hI', by rw [hu, hm2]; simp⟩
      | false =>
        rw [hg] at hu
        simp at hu
        simp [e0, e1, e2, e7, e8, hlt, hk]
        rw [hu]
        exact hI'
    · rw [hm, climbF, if_neg hc, List.append_nil] at hu
      rw [hu]
      by_cases h1 : c < 0
      · simp [e0, e1, e2, e7, e8, hlt, h1]
        refine GTK.no ?_
        simp [e0, e1, e2, e7, e8, hlt, h1]
        exact hI
      · have h2 : (ps.length : Int) ≤ c := by omega
        simp [e0, e1, e2, e7, e8, hlt, h1, h2]
        refine GTK.no ?_
        simp [e0, e1, e2, e7, e8, hlt, h1, h2]
        exact hI
  · have : n = ps.length := by omega
    rw [this, Nat.sub_self, climbF, List.append_nil] at hu
    rw [hu]
    simp [e0, e1, e2, e7, e8, hlt]
    exact hI
/-- a list grown from nil on, by things or lists, behind k things -/
def GrowZ (k sz : Nat) (J : List HO) (x : AV) (xs : List AV) : Prop := (xs = [] ∧ (x = .sl .nil [] ∨ x = .sl .exact [])) ∨ ∃ t, x = .sl (.tok (t + k)) xs ∧ J[t]? = some (.spare xs.length sz)
theorem T_up (ps : List Int) (i : Int) (hl : ps.length ≤ 1000000) : T Tryz.prog 123 [.sl .no (ints' ps), .int .i64 i] (.sl .no (ints' (upI ps i))) := by
  have kc := S_climb ps i 137 [.ptr 0 0] (fun _ => true) (fun A H => ∃ x J, H = .box [x] :: J ∧ GrowZ 1 1 J x (ints' A)) [.box [.sl .exact []]] ⟨_, [], rfl, .inl ⟨rfl, .inr rfl⟩⟩ hl (by
    rintro A x _ hx hA ⟨s, J, rfl, hg⟩
    refine TS.body mix Tryz.func137 (by kernel_rfl) rfl (by kernel_rfl) (by simp) ?_
    rcases hg with ⟨ge, hg⟩ | ⟨t, rfl, ht⟩
    · rw [avs_eq_nil] at ge
      subst ge
      have hex : s.ex = .sl .exact [] := by rcases hg with rfl | rfl <;> rfl
      rcases hg with rfl | rfl
      · simp
        exact ⟨_, _, ⟨rfl, rfl⟩, .inr ⟨J.length, rfl, by simp⟩⟩
      · simp
        exact ⟨_, _, ⟨rfl, rfl⟩, .inr ⟨J.length, rfl, by simp⟩⟩
    · simp [ht]
      refine ⟨⟨by omega, by omega⟩, _, _, ⟨rfl, rfl⟩, .inr ⟨t, rfl, ?_⟩⟩
      rw [List.getElem?_set_self (List.getElem?_eq_some_iff.1 ht).1]
      simp)
  rw [climb_all] at kc
  refine T.introF (TS.body mix Tryz.func123 (by kernel_rfl) rfl (by kernel_rfl) (by simp) ?_)
  simp
  refine TS.mono kc ?_
  rintro _ _ ⟨rfl, s, J, rfl, hg⟩
  have hu : upF ps ps.length i = upI ps i := rfl
  rw [hu] at hg
  generalize upI ps i = U at *
  rcases hg with ⟨ge, hg⟩ | ⟨t, rfl, ht⟩
  · rw [avs_eq_nil] at ge
    subst ge
    rcases hg with rfl | rfl <;> simp <;> exact Frz.slN (f := AV.int .i64) (l := [])
  · simp
    exact Frz.slN
/-- does the last one that was met end a way? -/
def endF (ps A : List Int) : Bool := match A.getLast? with | none => false | some x => isEnd ps x
theorem S_right1 (ps : List Int) (k : Nat) (x : Nat) (b : Bool) (H : List HO) (hx : x < ps.length) (h0 : H[0]? = some (.box [.sl .no (ints' ps)])) (hk : H[k]? = some (.box [.bool b])) :
    TS Tryz.prog 156 [.int .i64 (x : Int), .ptr 0 0, .ptr k 0] H (pt (.bool (!isEnd ps x)) (H.set k (.box [.bool (isEnd ps x)]))) := by
  have hkl := (List.getElem?_eq_some_iff.1 hk).1
  refine TS.body mix Tryz.func156 (by kernel_rfl) rfl (by kernel_rfl) (by simp) ?_
  have hk2 : H[k] = .box [.bool b] := by rw [List.getElem?_eq_getElem hkl] at hk; exact Option.some.inj hk
  simp [h0, hx, hkl, hk2]
  unfold isEnd
  simp [hx]
set_option maxRecDepth 4000 in
theorem T_jright (ps : List Int) (hl : ps.length ≤ 1000000) : T Tryz.prog 134 [.sl .no (ints' ps)] (.bool (treeI ps)) := by
  refine T.intro (TS.body mix Tryz.func134 (by kernel_rfl) rfl (by kernel_rfl) (by simp) ?_)
  simp
  refine vc_loop (fun i : Nat => ps.length - i) (fun i e H => ∃ J, e 1 = .ptr 0 0 ∧ e 7 = .sl .no (ints' ps) ∧ e 8 = .int .i64 ps.length ∧ e 3 = .int .i64 ((ps.take i).count (-1) : Nat) ∧ e 9 = .int .i64 i ∧ i ≤ ps.length ∧ (∀ j, j < i → endOk ps j = true) ∧ H = .box [.sl .no (ints' ps)] :: J) 0 ?_ ?_
  · refine ⟨[], ?_⟩
    simp
  rintro i e H ⟨J, e1, e7, e8, e3, e9, hi, hno, rfl⟩
  by_cases hlt : i < ps.length
  · have ew := wrap_next hlt (by omega)
    have hcn := count_next hlt (-1)
    have hcl : (ps.take i).count (-1) ≤ i := Nat.le_trans List.count_le_length (by simp; omega)
    have ew2 : IntKind.i64.wrap (((ps.take i).count (-1) : Nat) + 1 : Int) = (((ps.take i).count (-1) + 1 : Nat) : Int) := by rw [wrap_i64 (by omega) (by omega)]; omega
    have hne := upI_ne hlt
    have kc := S_climb ps i 156 [.ptr 0 0, .ptr (J.length + 1) 0] (fun x => !isEnd ps x) (fun A H => H = .box [.sl .no (ints' ps)] :: (J ++ [.box [.bool (endF ps A)]])) (.box [.sl .no (ints' ps)] :: (J ++ [.box [.bool false]])) rfl hl (by
      rintro A x _ hx hA rfl
      refine TS.pt (S_right1 ps (J.length + 1) x (endF ps A) _ hx rfl (by simp)) ⟨rfl, ?_⟩
      simp [endF])
    rw [climb_end] at kc
    have hu : upF ps ps.length i = upI ps i := rfl
    rw [hu] at kc
    have hq : endF ps (upI ps i) = endOk ps i := by
      unfold endF endOk
      rw [List.getLast?_eq_some_getLast hne]
      simp [isEnd]
    rw [hq] at kc
    have fin : ∀ j, endOk ps i = true → j < i + 1 → endOk ps j = true := by
      intro j h hj
      rcases Nat.lt_or_ge j i with h2 | h2
      · exact hno j h2
      · have : j = i := by omega
        subst this; exact h
    by_cases c2 : ps[i] = -1
    · rw [if_pos c2] at hcn
      simp [e1, e7, e8, e3, e9, hlt, c2]
      refine TS.mono kc ?_
      rintro _ _ ⟨rfl, rfl⟩
      cases hb : endOk ps i with
      | true =>
        simp [e1, e7, e8, e3, e9, hlt, c2]
        exact ⟨i + 1, by omega, by rw [hcn]; exact ew2, ew, by omega, fun j hj => fin j hb hj⟩
      | false =>
        have : treeI ps = false := by
          unfold treeI
          rw [all_range_no hlt hb, Bool.false_and]
        rw [this]
        simp [e1, e7, e8, e3, e9, hlt, c2]
    · rw [if_neg c2] at hcn
      simp [e1, e7, e8, e3, e9, hlt, c2]
      refine TS.mono kc ?_
      rintro _ _ ⟨rfl, rfl⟩
      cases hb : endOk ps i with
      | true =>
        simp [e1, e7, e8, e3, e9, hlt, c2]
        exact ⟨i + 1, by omega, by rw [hcn]; rfl, ew, by omega, fun j hj => fin j hb hj⟩
      | false =>
        have : treeI ps = false := by
          unfold treeI
          rw [all_range_no hlt hb, Bool.false_and]
        rw [this]
        simp [e1, e7, e8, e3, e9, hlt, c2]
  · have : i = ps.length := by omega
    subst this
    rw [List.take_length] at e3
    have : treeI ps = (decide (ps.length = 0) || decide (ps.count (-1) = 1)) := by
      unfold treeI
      rw [all_range hno, Bool.true_and]
    rw [this]
    by_cases c0 : ps.length = 0
    · have := List.eq_nil_of_length_eq_zero c0
      subst this
      simp at e7 e8 e3 e9
      simp [e1, e7, e8, e3, e9]
    · have c1 : ¬ (ps.length : Int) = 0 := by omega
      have c2 : ¬ ps = [] := fun h => c0 (by rw [h]; rfl)
      simp [e1, e7, e8, e3, e9, c1, c2]
      try omega
def heldI (ps : List Int) : List Int := if treeI ps = true then ps else []
theorem heldI_len (ps : List Int) : (heldI ps).length ≤ ps.length := by unfold heldI; split <;> simp
theorem T_held (ps : List Int) (hl : ps.length ≤ 1000000) : T Tryz.prog 120 [.sl .no (ints' ps)] (.sl .no (ints' (heldI ps))) := by
  have k := T_jright ps hl
  refine T.intro (TS.body mix Tryz.func120 (by kernel_rfl) rfl (by kernel_rfl) (by simp) ?_)
  simp
  refine TS.callW k (Dws.self (by simp)) ?_
  unfold heldI
  cases treeI ps <;> simp
theorem T_jrheld (ps : List Int) (hl : ps.length ≤ 1000000) : T Tryz.prog 79 [.sl .no (ints' ps)] (.sl .no (ints' (heldI ps))) := by
  have k := T_rtree ps hl
  refine T.intro (TS.body mix Tryz.func79 (by kernel_rfl) rfl (by kernel_rfl) (by simp) ?_)
  simp
  refine TS.callW k (Dws.self (by simp)) ?_
  unfold heldI
  cases treeI ps <;> simp
end Go.Proofs.YtjplcdeaedflpaaGreatDoor.PL
namespace Go.Proofs.YtjplcdeaedflpaaGreatDoor.PL
open Go.Proofs
set_option linter.unusedVariables false
set_option linter.unusedSimpArgs false
abbrev rwAQ (r : Int) : AV := AV.int .i64 r
abbrev capA (ps : List Int) : AV := .ref [.sl .no (ints' ps)]
theorem setIQ {α : Type} {L : List α} {j : Nat} (hj : j < L.length) {x : α} : L.take j ++ x :: L.drop (j + 1) = L.set j x := by
  rw [List.set_eq_take_append_cons_drop, if_pos hj]
theorem swap_twoQ {α : Type} (A B C : List α) (x y : α) : ((A ++ x :: (B ++ y :: C)).set A.length y).set (A.length + 1 + B.length) x = A ++ y :: (B ++ x :: C) := by
  have e1 : (A ++ x :: (B ++ y :: C)).set A.length y = A ++ y :: (B ++ y :: C) := by simp
  rw [e1]
  rw [List.set_append_right _ _ (by omega), show A.length + 1 + B.length - A.length = B.length + 1 by omega, List.set_cons_succ, List.set_append_right _ _ (by omega), Nat.sub_self, List.set_cons_zero]
theorem S_swapRQ (H : List HO) (r n a b m : Nat) (cv : AV) (P X M Y Q : List Int) (hn : (P ++ X ++ M ++ Y ++ Q).length = n) (ha : P.length = a) (hb : P.length + X.length + M.length = b) (hx : X.length = m) (hy : Y.length = m) (hr : H[r]? = some (.row n 1 (avs rwAQ (P ++ X ++ M ++ Y ++ Q)))) (h1k : n ≤ 1000) :
    TS Tryz.prog 183 [.mv r n 1 0 n, .int .i64 a, .int .i64 b, .int .i64 m, cv] H (pt (.tup []) (H.set r (.row n 1 (avs rwAQ (P ++ Y ++ M ++ X ++ Q))))) := by
  have hrl := (List.getElem?_eq_some_iff.1 hr).1
  have hl : P.length + X.length + M.length + Y.length + Q.length = n := by rw [← hn]; simp; omega
  have h00 : H = H.set r (.row n 1 (avs rwAQ (P ++ (Y.take 0 ++ X.drop 0) ++ M ++ (X.take 0 ++ Y.drop 0) ++ Q))) := by
    have : H[r] = .row n 1 (avs rwAQ (P ++ X ++ M ++ Y ++ Q)) := by rw [List.getElem?_eq_getElem hrl] at hr; exact Option.some.inj hr
    simp only [List.take_zero, List.drop_zero, List.nil_append]
    rw [← this, List.set_getElem_self]
  refine TS.body mix Tryz.func183 (by kernel_rfl) rfl (by kernel_rfl) (by simp) ?_
  simp
  refine vc_loop (fun i : Nat => m - i) (fun i e H' => e 0 = .mv r n 1 0 n ∧ e 1 = .int .i64 a ∧ e 2 = .int .i64 b ∧ e 3 = .int .i64 m ∧ e 10 = .int .i64 i ∧ i ≤ m ∧ H' = H.set r (.row n 1 (avs rwAQ (P ++ (Y.take i ++ X.drop i) ++ M ++ (X.take i ++ Y.drop i) ++ Q)))) 0 ?_ ?_
  · exact ⟨by simp, by simp, by simp, by simp, by simp, by omega, h00⟩
  rintro i e H' ⟨h0, h1, h2, h3, h10, hi, rfl⟩
  by_cases hlt : i < m
  · have ew := wrap_next hlt (by omega)
    obtain ⟨p, hp⟩ : ∃ p, p = a + i := ⟨_, rfl⟩
    obtain ⟨q, hq⟩ : ∃ q, q = b + i := ⟨_, rfl⟩
    have w1 : IntKind.i64.wrap ((a : Int) + i) = (p : Int) := by rw [wrap_i64 (by omega) (by omega)]; omega
    have w2 : IntKind.i64.wrap ((b : Int) + i) = (q : Int) := by rw [wrap_i64 (by omega) (by omega)]; omega
    have hix : i < X.length := by omega
    have hiy : i < Y.length := by omega
    obtain ⟨x, hxi⟩ : ∃ x, X[i] = x := ⟨_, rfl⟩
    obtain ⟨y, hyi⟩ : ∃ y, Y[i] = y := ⟨_, rfl⟩
    have hsh : P ++ (Y.take i ++ X.drop i) ++ M ++ (X.take i ++ Y.drop i) ++ Q = (P ++ Y.take i) ++ x :: ((X.drop (i + 1) ++ M ++ X.take i) ++ y :: (Y.drop (i + 1) ++ Q)) := by
      rw [List.drop_eq_getElem_cons hix, List.drop_eq_getElem_cons hiy, hxi, hyi]
      simp
    have hA : (P ++ Y.take i).length = p := by simp; omega
    have hB : (P ++ Y.take i).length + 1 + (X.drop (i + 1) ++ M ++ X.take i).length = q := by simp; omega
    have hsw := swap_twoQ (P ++ Y.take i) (X.drop (i + 1) ++ M ++ X.take i) (Y.drop (i + 1) ++ Q) x y
    rw [hB, hA, ← hsh] at hsw
    have hnx : P ++ (Y.take (i + 1) ++ X.drop (i + 1)) ++ M ++ (X.take (i + 1) ++ Y.drop (i + 1)) ++ Q = (P ++ Y.take i) ++ y :: ((X.drop (i + 1) ++ M ++ X.take i) ++ x :: (Y.drop (i + 1) ++ Q)) := by
      rw [take_next hix, take_next hiy, hxi, hyi]
      simp
    rw [← hnx] at hsw
    have g1 : ∀ k, (P ++ (Y.take i ++ X.drop i) ++ M ++ (X.take i ++ Y.drop i) ++ Q)[p]'k = x := fun k => by
      have : (P ++ (Y.take i ++ X.drop i) ++ M ++ (X.take i ++ Y.drop i) ++ Q)[p]? = some x := by rw [hsh, ← hA]; simp
      rw [List.getElem?_eq_getElem k] at this; exact Option.some.inj this
    have g2 : ∀ k, (P ++ (Y.take i ++ X.drop i) ++ M ++ (X.take i ++ Y.drop i) ++ Q)[q]'k = y := fun k => by
      have : (P ++ (Y.take i ++ X.drop i) ++ M ++ (X.take i ++ Y.drop i) ++ Q)[q]? = some y := by rw [hsh, ← hB, List.getElem?_append_right (by omega), show (P ++ Y.take i).length + 1 + (X.drop (i + 1) ++ M ++ X.take i).length - (P ++ Y.take i).length = (X.drop (i + 1) ++ M ++ X.take i).length + 1 by omega]; simp
      rw [List.getElem?_eq_getElem k] at this; exact Option.some.inj this
    have hLl : (P ++ (Y.take i ++ X.drop i) ++ M ++ (X.take i ++ Y.drop i) ++ Q).length = n := by simp; omega
    generalize P ++ (Y.take i ++ X.drop i) ++ M ++ (X.take i ++ Y.drop i) ++ Q = L at *
    have b1 : p < n := by omega
    have b2 : q < n := by omega
    simp [h0, h1, h2, h3, h10, hlt, w1, w2, hLl, g1, g2, b1, b2, hrl]
    refine ⟨by omega, by omega, i + 1, by omega, ew, by omega, ?_⟩
    rw [setIQ (show p < L.length by omega), setIQ (show q < (L.set p y).length by rw [List.length_set]; omega), hsw]
    simp
  · have : i = m := by omega
    subst this
    simp [h0, h1, h2, h3, h10]
    rw [List.take_of_length_le (by omega), List.drop_of_length_le (show X.length ≤ i by omega), List.take_of_length_le (show X.length ≤ i by omega), List.drop_of_length_le (show Y.length ≤ i by omega)]
    simp
theorem td_appQ {α : Type} (k : Nat) (X Z : List α) : X.take k ++ (X.drop k ++ Z) = X ++ Z := by rw [← List.append_assoc, List.take_append_drop]
def RotIQ (T : List Int) (n m i j : Nat) (L : List Int) : Prop := ∃ P X Y Q : List Int, X.length = i ∧ Y.length = j ∧ P.length + i = m ∧ (P ++ X ++ Y ++ Q).length = n ∧ P ++ Y ++ X ++ Q = T ∧ L = P ++ X ++ Y ++ Q
set_option maxHeartbeats 1000000 in
/-- two parts that lie side by side change places -/
theorem S_rotateQ (H : List HO) (r n : Nat) (cv : AV) (P X Y Q : List Int) (a m b : Nat) (hn : (P ++ X ++ Y ++ Q).length = n) (ha : P.length = a) (hm : P.length + X.length = m) (hb : P.length + X.length + Y.length = b) (hx : 0 < X.length) (hy : 0 < Y.length) (hr : H[r]? = some (.row n 1 (avs rwAQ (P ++ X ++ Y ++ Q)))) (h1k : n ≤ 1000) :
    TS Tryz.prog 174 [.mv r n 1 0 n, .int .i64 a, .int .i64 m, .int .i64 b, cv] H (pt (.tup []) (H.set r (.row n 1 (avs rwAQ (P ++ Y ++ X ++ Q))))) := by
  have hrl := (List.getElem?_eq_some_iff.1 hr).1
  obtain ⟨T, hT⟩ : ∃ T, T = P ++ Y ++ X ++ Q := ⟨_, rfl⟩
  have hl : P.length + X.length + Y.length + Q.length = n := by rw [← hn]; simp; omega
  have w0 : IntKind.i64.wrap ((m : Int) - a) = (X.length : Int) := by rw [wrap_i64 (by omega) (by omega)]; omega
  have w1 : IntKind.i64.wrap ((b : Int) - m) = (Y.length : Int) := by rw [wrap_i64 (by omega) (by omega)]; omega
  have h00 : H = H.set r (.row n 1 (avs rwAQ (P ++ X ++ Y ++ Q))) := by
    have : H[r] = .row n 1 (avs rwAQ (P ++ X ++ Y ++ Q)) := by rw [List.getElem?_eq_getElem hrl] at hr; exact Option.some.inj hr
    rw [← this, List.set_getElem_self]
  rw [← hT]
  refine TS.body mix Tryz.func174 (by kernel_rfl) rfl (by kernel_rfl) (by simp) ?_
  simp [w0, w1]
  refine vc_loop (fun k : Nat => k) (fun k e H' => ∃ (i j : Nat) (L : List Int), e 0 = .mv r n 1 0 n ∧ e 2 = .int .i64 m ∧ e 4 = cv ∧ e 10 = .int .i64 i ∧ e 11 = .int .i64 j ∧ k = i + j ∧ 0 < i ∧ 0 < j ∧ RotIQ T n m i j L ∧ H' = H.set r (.row n 1 (avs rwAQ L))) (X.length + Y.length) ?_ ?_
  · exact ⟨X.length, Y.length, _, by simp, by simp, by simp, by simp, by simp, rfl, hx, hy, ⟨P, X, Y, Q, rfl, rfl, hm, hn, hT.symm, rfl⟩, h00⟩
  rintro k e H' ⟨i, j, L, h0, h2, h4, h10, h11, rfl, hi, hj, ⟨P', X', Y', Q', hX, hY, hP, hn', hT', rfl⟩, rfl⟩
  have hl' : P'.length + i + j + Q'.length = n := by rw [← hn']; simp; omega
  have hr' : (H.set r (.row n 1 (avs rwAQ (P' ++ X' ++ Y' ++ Q'))))[r]? = some (.row n 1 (avs rwAQ (P' ++ X' ++ Y' ++ Q'))) := List.getElem?_set_self hrl
  obtain ⟨s, hs⟩ : ∃ s, s + i = m := ⟨P'.length, hP⟩
  have w3 : IntKind.i64.wrap ((m : Int) - i) = (s : Int) := by rw [wrap_i64 (by omega) (by omega)]; omega
  by_cases hij : i = j
  · subst hij
    have ks := S_swapRQ (H.set r (.row n 1 (avs rwAQ (P' ++ X' ++ Y' ++ Q')))) r n s m i cv P' X' [] Y' Q' (by simpa using hn') (by omega) (by simp; omega) hX hY (by simpa using hr') h1k
    simp at ks
    simp [h0, h2, h4, h10, h11, w3]
    refine TS.pt ks ?_
    simp
    rw [← hT']
    simp
  · have hne : ¬ (i : Int) = j := by omega
    by_cases hgt : j < i
    · obtain ⟨d, hd⟩ : ∃ d, d + j = i := ⟨i - j, by omega⟩
      have w4 : IntKind.i64.wrap ((i : Int) - j) = (d : Int) := by rw [wrap_i64 (by omega) (by omega)]; omega
      have hX1 : X' = X'.take j ++ X'.drop j := (List.take_append_drop j X').symm
      have ks := S_swapRQ (H.set r (.row n 1 (avs rwAQ (P' ++ X' ++ Y' ++ Q')))) r n s m j cv P' (X'.take j) (X'.drop j) Y' Q' (by simpa using hn') (by omega) (by simp; omega) (by simp; omega) hY (by simpa using hr') h1k
      simp at ks
      have hc : (j : Int) < i := by omega
      have hnx : RotIQ T n m d j (P' ++ (Y' ++ (X'.drop j ++ (X'.take j ++ Q')))) := ⟨P' ++ Y', X'.drop j, X'.take j, Q', by simp; omega, by simp; omega, by simp; omega, by simp; omega, by rw [← hT']; simp [td_appQ], by simp⟩
      simp [h0, h2, h4, h10, h11, w3, hne, hc]
      refine TS.pt ks ?_
      simp [h0, h2, h4, h10, h11, w3, hne, hc, w4]
      exact ⟨d + j, by omega, d, rfl, j, rfl, rfl, by omega, hj, _, hnx, rfl⟩
    · obtain ⟨d, hd⟩ : ∃ d, d + i = j := ⟨j - i, by omega⟩
      obtain ⟨g, hg⟩ : ∃ g, g = m + d := ⟨_, rfl⟩
      obtain ⟨u, hu⟩ : ∃ u, u = m + j := ⟨_, rfl⟩
      have w4 : IntKind.i64.wrap ((j : Int) - i) = (d : Int) := by rw [wrap_i64 (by omega) (by omega)]; omega
      have w5 : IntKind.i64.wrap ((m : Int) + j) = (u : Int) := by rw [wrap_i64 (by omega) (by omega)]; omega
      have w6 : IntKind.i64.wrap ((u : Int) - i) = (g : Int) := by rw [wrap_i64 (by omega) (by omega)]; omega
      have hY1 : Y' = Y'.take d ++ Y'.drop d := (List.take_append_drop d Y').symm
      have e1 : P' ++ X' ++ Y' ++ Q' = P' ++ X' ++ Y'.take d ++ Y'.drop d ++ Q' := by simp [td_appQ]
      have ks := S_swapRQ (H.set r (.row n 1 (avs rwAQ (P' ++ X' ++ Y' ++ Q')))) r n s g i cv P' X' (Y'.take d) (Y'.drop d) Q' (by rw [← e1]; exact hn') (by omega) (by simp; omega) hX (by simp; omega) (by rw [← e1]; exact hr') h1k
      simp at ks
      have hc : ¬ (j : Int) < i := by omega
      have hnx : RotIQ T n m i d (P' ++ (Y'.drop d ++ (Y'.take d ++ (X' ++ Q')))) := ⟨P', Y'.drop d, Y'.take d, X' ++ Q', by simp; omega, by simp; omega, hP, by simp; omega, by rw [← hT']; simp [td_appQ], by simp⟩
      simp [h0, h2, h4, h10, h11, w3, hne, hc, w5, w6]
      refine TS.pt ks ?_
      simp [h0, h2, h4, h10, h11, w3, hne, hc, w4, w5, w6]
      exact ⟨i + d, by omega, i, rfl, d, rfl, rfl, hi, by omega, _, hnx, rfl⟩
structure Cmp3Q (cf : FuncId) (ps : List Int) (c : Int → Int → Int) (le bf : Int → Int → Prop) (ok : Int → Prop) : Prop where
  cmp : ∀ x y, ok x → ok y → T Tryz.prog cf [rwAQ x, rwAQ y, capA ps] (.int .i64 (c x y))
  trans : ∀ x y z, le x y → le y z → le x z
  total : ∀ x y, ¬ le x y → le y x
  link : ∀ x y, bf x y → (c y x < 0 ↔ ¬ le x y)
def symKQ (H : List HO) (r n : Nat) (le : Int → Int → Prop) (P X Y Q : List Int) (x : AV) (H' : List HO) : Prop := x = .tup [] ∧ ∃ Z : List Int, Z.Perm (X ++ Y) ∧ Z.Pairwise le ∧ H' = H.set r (.row n 1 (avs rwAQ (P ++ Z ++ Q)))
theorem half_wrapQ {p h : Nat} (hp : p < 4611686018427387904) (hh : h = p / 2) : IntKind.i64.wrap ((IntKind.u64.wrap (p : Int)).fdiv 2) = (h : Int) := by
  have e : IntKind.u64.wrap (p : Int) = (p : Int) := by exact wrap_u64 (by omega) (by omega)
  rw [e, show (p : Int).fdiv 2 = (h : Int) by rw [Int.fdiv_eq_ediv_of_nonneg _ (by omega)]; omega]
  exact wrap_i64 (by omega) (by omega)
def cutIQ (le : Int → Int → Prop) (x : Int) (Y : List Int) (m i j : Nat) : Prop := m ≤ i ∧ i ≤ j ∧ j ≤ m + Y.length ∧ (∀ q (h : q < Y.length), m + q < i → ¬ le x Y[q]) ∧ (∀ q (h : q < Y.length), j ≤ m + q → le x Y[q])
theorem S_sym1Q {cf : FuncId} {ps : List Int} {c : Int → Int → Int} {le bf : Int → Int → Prop} {ok : Int → Prop} (hC : Cmp3Q cf ps c le bf ok) (H : List HO) (r n : Nat) (P : List Int) (x : Int) (Y Q : List Int) (a m b : Nat) (hn : (P ++ [x] ++ Y ++ Q).length = n) (ha : P.length = a) (hm : P.length + 1 = m) (hb : P.length + 1 + Y.length = b) (hr : H[r]? = some (.row n 1 (avs rwAQ (P ++ [x] ++ Y ++ Q)))) (h1k : n ≤ 1000)
    (hok : ∀ z, z ∈ x :: Y → ok z) (hbf : ∀ y, y ∈ Y → bf x y) (hY : Y.Pairwise le) :
    TS Tryz.prog 158 [.mv r n 1 0 n, .int .i64 a, .int .i64 m, .int .i64 b, .fn (.func cf) [] [capA ps]] H (symKQ H r n le P [x] Y Q) := by
  have hrl := (List.getElem?_eq_some_iff.1 hr).1
  have hl : P.length + 1 + Y.length + Q.length = n := by rw [← hn]; simp; omega
  have w0 : IntKind.i64.wrap ((m : Int) - a) = 1 := by rw [wrap_i64 (by omega) (by omega)]; omega
  refine TS.body mix Tryz.func158 (by kernel_rfl) rfl (by kernel_rfl) (by simp) ?_
  simp [w0]
  obtain ⟨L, hL⟩ : ∃ L, L = P ++ [x] ++ Y ++ Q := ⟨_, rfl⟩
  have hLl : L.length = n := by rw [hL]; exact hn
  have hLx : ∀ k, L[a]'k = x := fun k => by
    have : L[a]? = some x := by rw [hL, ← ha]; simp
    rw [List.getElem?_eq_getElem k] at this; exact Option.some.inj this
  have hLy : ∀ q (h : q < Y.length) k, L[m + q]'k = Y[q] := fun q h k => by
    have : L[m + q]? = some Y[q] := by
      rw [hL, List.append_assoc, List.getElem?_append_right (by simp; omega)]
      simp
      rw [List.getElem?_append_left (by omega), show m + q - (P.length + 1) = q by omega, List.getElem?_eq_getElem h]
    rw [List.getElem?_eq_getElem k] at this; exact Option.some.inj this
  have hYs : ∀ q q', q < q' → ∀ (h : q < Y.length) (h' : q' < Y.length), le Y[q] Y[q'] := fun q q' hq h h' => List.pairwise_iff_getElem.1 hY q q' h h' hq
  rw [← hL] at hr
  refine vc_loop (fun k : Nat => k) (fun k e H' => ∃ (i j : Nat), e 0 = .mv r n 1 0 n ∧ e 1 = .int .i64 a ∧ e 4 = .fn (.func cf) [] [capA ps] ∧ e 10 = .int .i64 i ∧ e 11 = .int .i64 j ∧ k = j - i ∧ cutIQ le x Y m i j ∧ H' = H) Y.length ?_ ?_
  · exact ⟨m, b, by simp, by simp, by simp, by simp, by simp, by omega, ⟨by omega, by omega, by omega, fun q h1 h2 => by omega, fun q h1 h2 => by omega⟩, rfl⟩
  rintro k e H' ⟨i, j, h0, h1, h4, h10, h11, rfl, ⟨hmi, hij, hj, hlo, hhi⟩, rfl⟩
  by_cases hlt : i < j
  · obtain ⟨p, hp⟩ : ∃ p, p = i + j := ⟨_, rfl⟩
    have w1 : IntKind.i64.wrap ((i : Int) + j) = (p : Int) := by rw [wrap_i64 (by omega) (by omega)]; omega
    obtain ⟨h, hh⟩ : ∃ h, h = p / 2 := ⟨_, rfl⟩
    have w2 := half_wrapQ (p := p) (h := h) (by omega) hh
    obtain ⟨q, hq⟩ : ∃ q, h = m + q := ⟨h - m, by omega⟩
    have hqY : q < Y.length := by omega
    have b1 : h < n := by omega
    have b2 : a < n := by omega
    have g2 : ∀ k, L[h]'k = Y[q] := fun k => by subst hq; exact hLy q hqY k
    have kc := hC.cmp Y[q] x (hok _ (List.mem_cons_of_mem _ (List.getElem_mem hqY))) (hok _ List.mem_cons_self)
    have hlk := hC.link x Y[q] (hbf _ (List.getElem_mem hqY))
    have w3 : IntKind.i64.wrap ((h : Int) + 1) = ((h + 1 : Nat) : Int) := by rw [wrap_i64 (by omega) (by omega)]; omega
    simp [h0, h1, h4, h10, h11, hlt, w1, w2, hr, hLl, hLx, g2, b1, b2]
    refine TDK.callW kc (Dws.self (by simp)) ?_
    by_cases hcc : c Y[q] x < 0
    · have hle := hlk.1 hcc
      simp [h0, h1, h4, h10, h11, hlt, w1, w2, hr, hLl, hLx, g2, b1, b2, hcc]
      refine ⟨j - (h + 1), by omega, h + 1, w3, j, rfl, rfl, by omega, by omega, hj, fun t ht hth h2 => ?_, hhi⟩
      by_cases htq : t = q
      · subst htq; exact hle h2
      · exact hle (hC.trans _ _ _ h2 (hYs t q (by omega) ht hqY))
    · have hle : le x Y[q] := Classical.byContradiction fun h2 => hcc (hlk.2 h2)
      simp [h0, h1, h4, h10, h11, hlt, w1, w2, hr, hLl, hLx, g2, b1, b2, hcc]
      refine ⟨h - i, by omega, i, rfl, h, rfl, rfl, by omega, by omega, by omega, hlo, fun t ht hth => ?_⟩
      by_cases htq : t = q
      · subst htq; exact hle
      · exact hC.trans _ _ _ hle (hYs q t (by omega) hqY ht)
  · have : i = j := by omega
    subst this
    obtain ⟨t, ht⟩ : ∃ t, i = m + t := ⟨i - m, by omega⟩
    have htY : t ≤ Y.length := by omega
    obtain ⟨u, hu⟩ : ∃ u, u = a + t := ⟨_, rfl⟩
    have w4 : IntKind.i64.wrap ((i : Int) - 1) = (u : Int) := by rw [wrap_i64 (by omega) (by omega)]; omega
    have hfin : symKQ H' r n le P [x] Y Q (.tup []) (H'.set r (.row n 1 (avs rwAQ (P ++ (Y.take t ++ x :: Y.drop t) ++ Q)))) := by
      refine ⟨rfl, Y.take t ++ x :: Y.drop t, ?_, ?_, rfl⟩
      · refine List.Perm.trans List.perm_middle ?_
        rw [List.take_append_drop]
        exact List.Perm.refl _
      · have hsp : (Y.take t ++ Y.drop t).Pairwise le := by rw [List.take_append_drop]; exact hY
        rw [List.pairwise_append] at hsp ⊢
        refine ⟨hsp.1, List.pairwise_cons.2 ⟨fun y hy => ?_, hsp.2.1⟩, fun y hy z hz => ?_⟩
        · obtain ⟨q, hq, rfl⟩ := List.mem_drop_iff_getElem.1 hy
          exact hhi _ _ (by omega)
        · rw [List.mem_cons] at hz
          rcases hz with rfl | hz
          · obtain ⟨q, hq, rfl⟩ := List.mem_take_iff_getElem.1 hy
            exact hC.total _ _ (hlo q (by omega) (by omega))
          · exact hsp.2.2 y hy z hz
    have hsame : H'.set r (.row n 1 (avs rwAQ (P ++ (Y.take 0 ++ x :: Y.drop 0) ++ Q))) = H' := by
      have : H'[r] = .row n 1 (avs rwAQ L) := by rw [List.getElem?_eq_getElem hrl] at hr; exact Option.some.inj hr
      have e2 : P ++ (Y.take 0 ++ x :: Y.drop 0) ++ Q = L := by rw [hL]; simp
      rw [e2, ← this, List.set_getElem_self]
    simp [h0, h1, h4, h10, h11]
    refine vc_loop (fun k : Nat => t - k) (fun s e H2 => e 0 = .mv r n 1 0 n ∧ e 10 = .int .i64 i ∧ e 13 = .int .i64 (a + s : Nat) ∧ s ≤ t ∧ H2 = H'.set r (.row n 1 (avs rwAQ (P ++ (Y.take s ++ x :: Y.drop s) ++ Q)))) 0 ?_ ?_
    · exact ⟨by simp [h0], by simp [h10], by simp, by omega, hsame.symm⟩
    clear h0 h1 h4 h10 h11 e
    rintro s e H2 ⟨h0, h10, h13, hs, rfl⟩
    obtain ⟨p, hp⟩ : ∃ p, p = a + s := ⟨_, rfl⟩
    rw [← hp] at h13
    by_cases hst : s < t
    · have hsY : s < Y.length := by omega
      obtain ⟨y, hy⟩ : ∃ y, Y[s] = y := ⟨_, rfl⟩
      obtain ⟨q, hq⟩ : ∃ q, q = p + 1 := ⟨_, rfl⟩
      have w5 : IntKind.i64.wrap ((p : Int) + 1) = (q : Int) := by rw [wrap_i64 (by omega) (by omega)]; omega
      have hsh : P ++ (Y.take s ++ x :: Y.drop s) ++ Q = (P ++ Y.take s) ++ x :: ([] ++ y :: (Y.drop (s + 1) ++ Q)) := by
        rw [List.drop_eq_getElem_cons hsY, hy]; simp
      have hA : (P ++ Y.take s).length = p := by simp; omega
      have hB : (P ++ Y.take s).length + 1 + ([] : List Int).length = q := by rw [hA]; simp; omega
      have hsw := swap_twoQ (P ++ Y.take s) [] (Y.drop (s + 1) ++ Q) x y
      rw [hB, hA, ← hsh] at hsw
      have hnx : P ++ (Y.take (s + 1) ++ x :: Y.drop (s + 1)) ++ Q = (P ++ Y.take s) ++ y :: ([] ++ x :: (Y.drop (s + 1) ++ Q)) := by
        rw [take_next hsY, hy]; simp
      rw [← hnx] at hsw
      have g1 : ∀ k, (P ++ (Y.take s ++ x :: Y.drop s) ++ Q)[p]'k = x := fun k => by
        have : (P ++ (Y.take s ++ x :: Y.drop s) ++ Q)[p]? = some x := by rw [hsh, ← hA]; simp
        rw [List.getElem?_eq_getElem k] at this; exact Option.some.inj this
      have g2 : ∀ k, (P ++ (Y.take s ++ x :: Y.drop s) ++ Q)[q]'k = y := fun k => by
        have : (P ++ (Y.take s ++ x :: Y.drop s) ++ Q)[q]? = some y := by rw [hsh, ← hB, List.getElem?_append_right (by omega), show (P ++ Y.take s).length + 1 + ([] : List Int).length - (P ++ Y.take s).length = 1 by simp]; simp
        rw [List.getElem?_eq_getElem k] at this; exact Option.some.inj this
      have hll : (P ++ (Y.take s ++ x :: Y.drop s) ++ Q).length = n := by simp; omega
      generalize P ++ (Y.take s ++ x :: Y.drop s) ++ Q = K at *
      have b1 : p < n := by omega
      have b2 : q < n := by omega
      have hc : p < u := by omega
      simp [h0, h10, h13, w4, w5, hc, hll, g1, g2, b1, b2, hrl]
      refine ⟨by omega, by omega, s + 1, by omega, by omega, by omega, ?_⟩
      rw [setIQ (show p < K.length by omega), setIQ (show q < (K.set p y).length by rw [List.length_set]; omega), hsw]
      simp
    · have : s = t := by omega
      subst this
      have hc : ¬ p < u := by omega
      simp [h0, h10, h13, w4, hc]
      simpa using hfin
def cutJQ (le : Int → Int → Prop) (y : Int) (X : List Int) (a i j : Nat) : Prop := a ≤ i ∧ i ≤ j ∧ j ≤ a + X.length ∧ (∀ q (h : q < X.length), a + q < i → le X[q] y) ∧ (∀ q (h : q < X.length), j ≤ a + q → ¬ le X[q] y)
theorem S_sym2Q {cf : FuncId} {ps : List Int} {c : Int → Int → Int} {le bf : Int → Int → Prop} {ok : Int → Prop} (hC : Cmp3Q cf ps c le bf ok) (H : List HO) (r n : Nat) (P X : List Int) (y : Int) (Q : List Int) (a m b : Nat) (hn : (P ++ X ++ [y] ++ Q).length = n) (ha : P.length = a) (hm : P.length + X.length = m) (hb : m + 1 = b) (hX2 : 2 ≤ X.length) (hr : H[r]? = some (.row n 1 (avs rwAQ (P ++ X ++ [y] ++ Q)))) (h1k : n ≤ 1000)
    (hok : ∀ z, z ∈ X ++ [y] → ok z) (hbf : ∀ x, x ∈ X → bf x y) (hX : X.Pairwise le) :
    TS Tryz.prog 158 [.mv r n 1 0 n, .int .i64 a, .int .i64 m, .int .i64 b, .fn (.func cf) [] [capA ps]] H (symKQ H r n le P X [y] Q) := by
  have hrl := (List.getElem?_eq_some_iff.1 hr).1
  have hl : P.length + X.length + 1 + Q.length = n := by rw [← hn]; simp; omega
  obtain ⟨d, hd⟩ : ∃ d, d = X.length := ⟨_, rfl⟩
  have w0 : IntKind.i64.wrap ((m : Int) - a) = (d : Int) := by rw [wrap_i64 (by omega) (by omega)]; omega
  have w0b : IntKind.i64.wrap ((b : Int) - m) = 1 := by rw [wrap_i64 (by omega) (by omega)]; omega
  have hd1 : ¬ (d : Int) = 1 := by omega
  refine TS.body mix Tryz.func158 (by kernel_rfl) rfl (by kernel_rfl) (by simp) ?_
  simp [w0, w0b, hd1]
  obtain ⟨L, hL⟩ : ∃ L, L = P ++ X ++ [y] ++ Q := ⟨_, rfl⟩
  have hLl : L.length = n := by rw [hL]; exact hn
  have hLy : ∀ k, L[m]'k = y := fun k => by
    have : L[m]? = some y := by rw [hL, ← hm]; simp
    rw [List.getElem?_eq_getElem k] at this; exact Option.some.inj this
  have hLx : ∀ q (h : q < X.length) k, L[a + q]'k = X[q] := fun q h k => by
    have : L[a + q]? = some X[q] := by
      rw [hL, List.append_assoc, List.append_assoc, List.getElem?_append_right (by omega), show a + q - P.length = q by omega, List.getElem?_append_left h, List.getElem?_eq_getElem h]
    rw [List.getElem?_eq_getElem k] at this; exact Option.some.inj this
  have hXs : ∀ q q', q < q' → ∀ (h : q < X.length) (h' : q' < X.length), le X[q] X[q'] := fun q q' hq h h' => List.pairwise_iff_getElem.1 hX q q' h h' hq
  rw [← hL] at hr
  refine vc_loop (fun k : Nat => k) (fun k e H' => ∃ (i j : Nat), e 0 = .mv r n 1 0 n ∧ e 2 = .int .i64 m ∧ e 4 = .fn (.func cf) [] [capA ps] ∧ e 14 = .int .i64 i ∧ e 15 = .int .i64 j ∧ k = j - i ∧ cutJQ le y X a i j ∧ H' = H) X.length ?_ ?_
  · exact ⟨a, m, by simp, by simp, by simp, by simp, by simp, by omega, ⟨by omega, by omega, by omega, fun q h1 h2 => by omega, fun q h1 h2 => by omega⟩, rfl⟩
  rintro k e H' ⟨i, j, h0, h2, h4, h14, h15, rfl, ⟨hai, hij, hj, hlo, hhi⟩, rfl⟩
  by_cases hlt : i < j
  · obtain ⟨p, hp⟩ : ∃ p, p = i + j := ⟨_, rfl⟩
    have w1 : IntKind.i64.wrap ((i : Int) + j) = (p : Int) := by rw [wrap_i64 (by omega) (by omega)]; omega
    obtain ⟨h, hh⟩ : ∃ h, h = p / 2 := ⟨_, rfl⟩
    have w2 := half_wrapQ (p := p) (h := h) (by omega) hh
    obtain ⟨q, hq⟩ : ∃ q, h = a + q := ⟨h - a, by omega⟩
    have hqX : q < X.length := by omega
    have b1 : h < n := by omega
    have b2 : m < n := by omega
    have g2 : ∀ k, L[h]'k = X[q] := fun k => by subst hq; exact hLx q hqX k
    have kc := hC.cmp y X[q] (hok _ (by simp)) (hok _ (List.mem_append_left _ (List.getElem_mem hqX)))
    have hlk := hC.link X[q] y (hbf _ (List.getElem_mem hqX))
    have w3 : IntKind.i64.wrap ((h : Int) + 1) = ((h + 1 : Nat) : Int) := by rw [wrap_i64 (by omega) (by omega)]; omega
    simp [h0, h2, h4, h14, h15, hlt, w1, w2, hr, hLl, hLy, g2, b1, b2]
    refine TDK.callW kc (Dws.self (by simp)) ?_
    by_cases hcc : c y X[q] < 0
    · have hle := hlk.1 hcc
      simp [h0, h2, h4, h14, h15, hlt, w1, w2, hr, hLl, hLy, g2, b1, b2, hcc]
      refine ⟨h - i, by omega, i, rfl, h, rfl, rfl, by omega, by omega, by omega, hlo, fun t ht hth h3 => ?_⟩
      by_cases htq : t = q
      · subst htq; exact hle h3
      · exact hle (hC.trans _ _ _ (hXs q t (by omega) hqX ht) h3)
    · have hle : le X[q] y := Classical.byContradiction fun h2 => hcc (hlk.2 h2)
      have hcc' : 0 ≤ c y X[q] := by omega
      simp [h0, h2, h4, h14, h15, hlt, w1, w2, hr, hLl, hLy, g2, b1, b2, hcc, hcc']
      refine ⟨j - (h + 1), by omega, h + 1, w3, j, rfl, rfl, by omega, by omega, hj, fun t ht hth => ?_, hhi⟩
      by_cases htq : t = q
      · subst htq; exact hle
      · exact hC.trans _ _ _ (hXs t q (by omega) ht hqX) hle
  · have : i = j := by omega
    subst this
    obtain ⟨t, ht⟩ : ∃ t, i = a + t := ⟨i - a, by omega⟩
    have htX : t ≤ X.length := by omega
    have hfin : symKQ H' r n le P X [y] Q (.tup []) (H'.set r (.row n 1 (avs rwAQ (P ++ (X.take t ++ y :: X.drop t) ++ Q)))) := by
      refine ⟨rfl, X.take t ++ y :: X.drop t, ?_, ?_, rfl⟩
      · refine List.Perm.trans List.perm_middle ?_
        rw [List.take_append_drop]
        exact (List.perm_append_comm (l₁ := X) (l₂ := [y])).symm
      · have hsp : (X.take t ++ X.drop t).Pairwise le := by rw [List.take_append_drop]; exact hX
        rw [List.pairwise_append] at hsp ⊢
        refine ⟨hsp.1, List.pairwise_cons.2 ⟨fun z hz => ?_, hsp.2.1⟩, fun z hz w hw => ?_⟩
        · obtain ⟨q, hq, rfl⟩ := List.mem_drop_iff_getElem.1 hz
          exact hC.total _ _ (hhi _ _ (by omega))
        · rw [List.mem_cons] at hw
          rcases hw with rfl | hw
          · obtain ⟨q, hq, rfl⟩ := List.mem_take_iff_getElem.1 hz
            exact hlo q (by omega) (by omega)
          · exact hsp.2.2 z hz w hw
    have hsame : H'.set r (.row n 1 (avs rwAQ (P ++ (X.take X.length ++ y :: X.drop X.length) ++ Q))) = H' := by
      have : H'[r] = .row n 1 (avs rwAQ L) := by rw [List.getElem?_eq_getElem hrl] at hr; exact Option.some.inj hr
      have e2 : P ++ (X.take X.length ++ y :: X.drop X.length) ++ Q = L := by rw [hL]; simp
      rw [e2, ← this, List.set_getElem_self]
    simp [h0, h2, h4, h14, h15]
    refine vc_loop (fun k : Nat => k) (fun s e H2 => e 0 = .mv r n 1 0 n ∧ e 14 = .int .i64 i ∧ e 17 = .int .i64 (a + s : Nat) ∧ t ≤ s ∧ s ≤ X.length ∧ H2 = H'.set r (.row n 1 (avs rwAQ (P ++ (X.take s ++ y :: X.drop s) ++ Q)))) X.length ?_ ?_
    · exact ⟨by simp [h0], by simp [h14], by simp; omega, by omega, by omega, hsame.symm⟩
    clear h0 h2 h4 h14 h15 e
    rintro s e H2 ⟨h0, h14, h17, hs, hsX, rfl⟩
    obtain ⟨p, hp⟩ : ∃ p, p = a + s := ⟨_, rfl⟩
    rw [← hp] at h17
    by_cases hst : t < s
    · obtain ⟨s1, hs1⟩ : ∃ s1, s = s1 + 1 := ⟨s - 1, by omega⟩
      subst hs1
      have hsX1 : s1 < X.length := by omega
      obtain ⟨x, hx⟩ : ∃ x, X[s1] = x := ⟨_, rfl⟩
      obtain ⟨q, hq⟩ : ∃ q, p = q + 1 := ⟨p - 1, by omega⟩
      have w5 : IntKind.i64.wrap ((p : Int) - 1) = (q : Int) := by rw [wrap_i64 (by omega) (by omega)]; omega
      have hsh : P ++ (X.take (s1 + 1) ++ y :: X.drop (s1 + 1)) ++ Q = (P ++ X.take s1) ++ x :: ([] ++ y :: (X.drop (s1 + 1) ++ Q)) := by
        rw [take_next hsX1, hx]; simp
      have hA : (P ++ X.take s1).length = q := by simp; omega
      have hB : (P ++ X.take s1).length + 1 + ([] : List Int).length = p := by rw [hA]; simp; omega
      have hsw := swap_twoQ (P ++ X.take s1) [] (X.drop (s1 + 1) ++ Q) x y
      rw [hB, hA, ← hsh] at hsw
      have hnx : P ++ (X.take s1 ++ y :: X.drop s1) ++ Q = (P ++ X.take s1) ++ y :: ([] ++ x :: (X.drop (s1 + 1) ++ Q)) := by
        rw [List.drop_eq_getElem_cons hsX1, hx]; simp
      rw [← hnx] at hsw
      have g1 : ∀ k, (P ++ (X.take (s1 + 1) ++ y :: X.drop (s1 + 1)) ++ Q)[q]'k = x := fun k => by
        have : (P ++ (X.take (s1 + 1) ++ y :: X.drop (s1 + 1)) ++ Q)[q]? = some x := by rw [hsh, ← hA]; simp
        rw [List.getElem?_eq_getElem k] at this; exact Option.some.inj this
      have g2 : ∀ k, (P ++ (X.take (s1 + 1) ++ y :: X.drop (s1 + 1)) ++ Q)[p]'k = y := fun k => by
        have : (P ++ (X.take (s1 + 1) ++ y :: X.drop (s1 + 1)) ++ Q)[p]? = some y := by rw [hsh, ← hB, List.getElem?_append_right (by omega), show (P ++ X.take s1).length + 1 + ([] : List Int).length - (P ++ X.take s1).length = 1 by simp]; simp
        rw [List.getElem?_eq_getElem k] at this; exact Option.some.inj this
      have hll : (P ++ (X.take (s1 + 1) ++ y :: X.drop (s1 + 1)) ++ Q).length = n := by simp; omega
      generalize P ++ (X.take (s1 + 1) ++ y :: X.drop (s1 + 1)) ++ Q = K at *
      have b1 : p < n := by omega
      have b2 : q < n := by omega
      have hc : i < p := by omega
      simp [h0, h14, h17, w5, hc, hll, g1, g2, b1, b2, hrl]
      refine ⟨by omega, by omega, s1, by omega, by omega, by omega, by omega, ?_⟩
      rw [setIQ (show p < K.length by omega), setIQ (show q < (K.set p x).length by rw [List.length_set]; omega), List.set_comm _ _ (by omega), hsw]
      simp
    · have : s = t := by omega
      subst this
      have hc : ¬ i < p := by omega
      simp [h0, h14, h17, hc]
      simpa using hfin
end Go.Proofs.YtjplcdeaedflpaaGreatDoor.PL
