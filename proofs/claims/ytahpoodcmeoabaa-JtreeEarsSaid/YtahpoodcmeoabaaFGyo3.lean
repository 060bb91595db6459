/- Ears, one after the other. -/
import Derived.Test.YtahpoodcmeoabaaFGyo2
namespace Go.Proofs.Ytahpoodcmeoabaa.PL
open Go.Proofs
set_option linter.unusedVariables false
set_option linter.unusedSimpArgs false
def earA (e : Nat × Nat) : AV := .agg [.int .i64 (e.1 : Nat), .int .i64 (e.2 : Nat)]
instance : Sized earA 2 := ⟨fun _ => rfl⟩
instance : Plain earA := ⟨fun _ => rfl⟩
instance : Selfs earA := ⟨fun a x h => by simp [earA] at h; rcases h with rfl | rfl <;> simp⟩
/-- the first ear -/
def ear1 (h : List (List Int)) (left : List Bool) : Option (Nat × Nat) := (List.range h.length).findSome? fun i => (earF h left i).map fun p => (i, p)
def playF (h : List (List Int)) : Nat → List Bool → List (Nat × Nat) × List Bool
  | 0, left => ([], left)
  | m + 1, left => match ear1 h left with
    | none => ([], left)
    | some (i, p) => ((i, p) :: (playF h m (left.set i false)).1, (playF h m (left.set i false)).2)
theorem playF_none {h : List (List Int)} {left : List Bool} (hn : ear1 h left = none) : ∀ m, playF h m left = ([], left)
  | 0 => rfl
  | m + 1 => by rw [playF, hn]
theorem findSome_range {α : Type} {q : Nat → Option α} {n k : Nat} {a : α} (hk : k < n) (hq : q k = some a) (hno : ∀ j, j < k → q j = none) : (List.range n).findSome? q = some a := by
  have : List.range n = List.range k ++ (k :: (List.range n).drop (k + 1)) := by
    apply List.ext_getElem?
    intro j
    rcases Nat.lt_or_ge j k with h | h
    · rw [List.getElem?_append_left (by simpa using h)]
      rw [List.getElem?_range h, List.getElem?_range (by omega)]
    · rw [List.getElem?_append_right (by simpa using h)]
      simp only [List.length_range]
      rcases Nat.eq_or_lt_of_le h with h2 | h2
      · subst h2; simp [hk]
      · obtain ⟨d, rfl⟩ : ∃ d, j = k + 1 + d := ⟨j - k - 1, by omega⟩
        rw [show k + 1 + d - k = d + 1 by omega, List.getElem?_cons_succ, List.getElem?_drop]
  rw [this, List.findSome?_append]
  have h0 : (List.range k).findSome? q = none := by
    rw [List.findSome?_eq_none_iff]
    intro x hx
    exact hno x (by simpa using hx)
  rw [h0]
  simp [hq]
theorem findSome_range_none {α : Type} {q : Nat → Option α} {n : Nat} (hno : ∀ j, j < n → q j = none) : (List.range n).findSome? q = none := by
  rw [List.findSome?_eq_none_iff]
  intro x hx
  exact hno x (by simpa using hx)
theorem earF_left {h : List (List Int)} {left : List Bool} {i p : Nat} (he : earF h left i = some p) : left.getD i false = true := by
  unfold earF at he
  split at he
  · assumption
  · cases he
theorem count_set {left : List Bool} {i : Nat} (hi : left.getD i false = true) : left.count true = (left.set i false).count true + 1 := by
  induction left generalizing i with
  | nil => simp at hi
  | cons a l ih =>
    cases i with
    | zero => simp at hi; subst hi; simp
    | succ i =>
      have := ih (i := i) (by simpa using hi)
      simp only [List.set_cons_succ, List.count_cons, this]
      omega
theorem playF_step {h : List (List Int)} {left : List Bool} {i p : Nat} (he : ear1 h left = some (i, p)) (hi : left.getD i false = true) : playF h (left.count true) left = ((i, p) :: (playF h ((left.set i false).count true) (left.set i false)).1, (playF h ((left.set i false).count true) (left.set i false)).2) := by
  rw [count_set hi, playF, he]
/-- all ears, and what is left -/
def playI (h : List (List Int)) : List (Nat × Nat) × List Bool := playF h h.length (List.replicate h.length true)
theorem bools_mv {H : List HO} {id n : Nat} {l : List Bool} (h : H[id]? = some (.row n 1 (bools' l))) (hn : l.length = n) : Frz H (.mv id n 1 0 n) (.sl .no (bools' l)) := by
  have hfl : ∀ l : List Bool, (bools' l).flatMap AV.cells = bools' l := fun l => by induction l with | nil => rfl | cons a l ih => simp
  exact Frz.mvA (f := AV.bool) (sz := 1) (l := l) (by rw [hfl]; exact h) hn
set_option maxRecDepth 4000 in
theorem T_play (h : List (List Int)) (hh : HsOk h) : T Try.prog 120 [.sl .no (lists' h)] (.tup [slA earA (playI h).1, slA AV.bool (playI h).2]) := by
  have hn := hh.n
  have hs := hh.s
  have kr := S_repeatB [] true h.length (by omega)
  refine T.introF (TS.body mix Try.func120 (by kernel_rfl) rfl (by kernel_rfl) (by simp) ?_)
  simp
  refine SC.jumps mix 0 rfl (fun s : List Bool × List (Nat × Nat) => s.1.count true) (fun s e H => ∃ J, e 0 = .sl .no (lists' h) ∧ e 4 = .mv 0 h.length 1 0 h.length ∧ GrowK 1 2 J (e 5) (avs earA s.2) ∧ H = .row h.length 1 (bools' s.1) :: J ∧ s.1.length = h.length ∧ s.2.length + s.1.count true ≤ h.length ∧ playI h = (s.2 ++ (playF h (s.1.count true) s.1).1, (playF h (s.1.count true) s.1).2)) ?_ ?_
  · simp
    refine TS.pt kr ?_
    simp
    refine ⟨List.replicate h.length true, [], [], GrowK.nil, ⟨rfl, rfl⟩, by simp, by simp, ?_⟩
    simp [playI]
  rintro ⟨left, es⟩ e H ⟨J, e0, e4, hg, rfl, hl, hc, hp⟩
  dsimp only at hg hl hc hp
  simp [e0, e4]
  refine vc_loop (fun k : Nat => h.length - k) (fun k e H => e 0 = .sl .no (lists' h) ∧ e 4 = .mv 0 h.length 1 0 h.length ∧ e 14 = .int .i64 h.length ∧ e 15 = .int .i64 k ∧ k ≤ h.length ∧ (∀ j, j < k → earF h left j = none) ∧ GrowK 1 2 J (e 5) (avs earA es) ∧ H = .row h.length 1 (bools' left) :: J) 0 ?_ ?_
  · simp [e0, e4]
    exact hg
  clear e0 e4 hg e
  rintro k e H ⟨e0, e4, e14, e15, hk, hno, hg, rfl⟩
  by_cases hlt : k < h.length
  · have ew := wrap_next hlt (by omega)
    have ke := T_ear h left k hh (by omega)
    have hei : earI h left k = earF h left k := by unfold earI; rw [if_pos (by omega)]; rfl
    rw [hei] at ke
    simp [e0, e4, e14, e15, hlt]
    refine TS.callF ke (.cons (.cl (by simp)) (.cons (bools_mv rfl hl) (.cons (.cl (by simp)) .nil))) rfl ?_
    cases hq : earF h left k with
    | none =>
      simp [e0, e4, e14, e15, hlt]
      exact ⟨k + 1, by omega, ew, by omega, fun j hj => by
        rcases Nat.lt_or_ge j k with h2 | h2
        · exact hno j h2
        · have : j = k := by omega
          subst this; exact hq, hg⟩
    | some p =>
      have h1 : ear1 h left = some (k, p) := by
        unfold ear1
        exact findSome_range hlt (by rw [hq]; rfl) fun j hj => by rw [hno j hj]; rfl
      have h2 := earF_left hq
      have h3 := playF_step h1 h2
      have h4 := count_set h2
      rw [h3] at hp
      dsimp only at hp
      have e1 : avs AV.bool (left.take k ++ false :: left.drop (k + 1)) = bools' (left.set k false) := by
        rw [List.set_eq_take_append_cons_drop, if_pos (by omega)]
      rcases hg with ⟨ge, hg⟩ | ⟨t, hg, ht⟩
      · rw [avs_eq_nil] at ge
        subst ge
        simp [e0, e4, e14, e15, hlt, hg]
        refine ⟨by omega, left.set k false, by omega, [(k, p)], _, GrowK.first (f := earA) (l := []) (a := (k, p)) rfl rfl, ⟨e1, rfl⟩, by simp [hl], by simp at hc ⊢; omega, by simpa using hp⟩
      · simp [e0, e4, e14, e15, hlt, hg, ht]
        refine ⟨⟨by omega, by omega⟩, by omega, left.set k false, by omega, es ++ [(k, p)], _, ?_, ⟨e1, rfl⟩, by simp [hl], by simp; omega, by simpa using hp⟩
        have := GrowK.more (f := earA) (q := 1) (l := es) (a := (k, p)) (n := es.length + 1) ht rfl
        rw [← avs_append, avs_cons, avs_nil] at this
        rw [← avs_append, avs_cons, avs_nil]
        exact this
  · have : k = h.length := by omega
    subst this
    have h1 : ear1 h left = none := findSome_range_none fun j hj => by rw [hno j hj]; rfl
    rw [playF_none h1] at hp
    simp only [List.append_nil] at hp
    simp [e0, e4, e14, e15]
    rw [hp]
    refine .tup (.cons ?_ (.cons (bools_mv rfl hl) .nil))
    obtain ⟨own, ho⟩ := hg.own
    rw [ho]
    exact Frz.slN
theorem playI_len (h : List (List Int)) : (playI h).2.length = h.length ∧ (playI h).1.length ≤ h.length := by
  have : ∀ m left, (playF h m left).2.length = left.length ∧ (playF h m left).1.length ≤ m := by
    intro m
    induction m with
    | zero => intro left; simp [playF]
    | succ m ih =>
      intro left
      rw [playF]
      cases hq : ear1 h left with
      | none => simp
      | some x =>
        obtain ⟨i, p⟩ := x
        have := ih (left.set i false)
        simp at this ⊢
        omega
  have := this h.length (List.replicate h.length true)
  simpa [playI] using this
theorem T_ears (h : List (List Int)) (hh : HsOk h) : T Try.prog 49 [.sl .no (lists' h)] (slA earA (playI h).1) := by
  have k := T_play h hh
  refine T.intro (TS.body mix Try.func49 (by kernel_rfl) rfl (by kernel_rfl) (by simp) ?_)
  simp
  refine TS.callW k (Dws.self (by simp)) ?_
  simp
/-- the places of what is left -/
def restI (left : List Bool) : List Int := ((List.range left.length).filter fun k => left.getD k false).map fun (k : Nat) => (k : Int)
def restN (left : List Bool) (m : Nat) : List Int := ((List.range m).filter fun k => left.getD k false).map fun (k : Nat) => (k : Int)
theorem restN_next (left : List Bool) (m : Nat) : restN left (m + 1) = restN left m ++ if left.getD m false = true then [(m : Int)] else [] := by
  unfold restN
  rw [List.range_succ, List.filter_append, List.map_append]
  by_cases h : left.getD m false = true
  · rw [if_pos h]; congr 1; simp only [List.filter_cons, List.filter_nil, h, if_true]; rfl
  · rw [if_neg h]; congr 1; simp only [List.filter_cons, List.filter_nil, h]; rfl
theorem restN_len (left : List Bool) (m : Nat) : (restN left m).length ≤ m := by
  unfold restN
  rw [List.length_map]
  exact Nat.le_trans (List.length_filter_le _ _) (by simp)
set_option maxRecDepth 4000 in
theorem T_left (h : List (List Int)) (hh : HsOk h) : T Try.prog 51 [.sl .no (lists' h)] (.sl .no (ints' (restI (playI h).2))) := by
  have k := T_play h hh
  have hn := hh.n
  have hl := (playI_len h).1
  obtain ⟨L, hL⟩ : ∃ L, L = (playI h).2 := ⟨_, rfl⟩
  obtain ⟨E, hE⟩ : ∃ E, E = (playI h).1 := ⟨_, rfl⟩
  rw [← hL, ← hE] at k
  rw [← hL] at hl ⊢
  refine T.introF (TS.body mix Try.func51 (by kernel_rfl) rfl (by kernel_rfl) (by simp) ?_)
  simp
  refine TS.callW k (Dws.self (by simp)) ?_
  simp
  refine vc_loop (fun k : Nat => L.length - k) (fun k e H => e 13 = .sl .no (bools' L) ∧ e 14 = .int .i64 L.length ∧ e 15 = .int .i64 k ∧ k ≤ L.length ∧ Grow1 1 H (e 5) (ints' (restN L k))) 0 ?_ ?_
  · simp
    exact .inl ⟨rfl, rfl⟩
  rintro k e H ⟨e13, e14, e15, hk, hg⟩
  by_cases hlt : k < L.length
  · have ew := wrap_next hlt (by omega)
    have hnx := restN_next L k
    have hrl := restN_len L k
    have hgk : L.getD k false = L[k] := by simp [hlt]
    cases hq : L[k] with
    | false =>
      rw [hgk, hq] at hnx
      simp at hnx
      simp [e13, e14, e15, hlt, hq]
      exact ⟨k + 1, by omega, ew, by omega, by rw [hnx]; exact hg⟩
    | true =>
      rw [hgk, hq, if_pos rfl] at hnx
      rcases hg with ⟨ge, hg⟩ | ⟨t, hg, ht⟩
      · rw [avs_eq_nil] at ge
        simp [e13, e14, e15, hlt, hq, hg]
        refine ⟨k + 1, by omega, ew, by omega, ?_⟩
        rw [hnx, ge]
        exact Grow1.first (f := AV.int .i64) (l := []) rfl rfl
      · simp [e13, e14, e15, hlt, hq, hg, ht]
        refine ⟨⟨by omega, by omega⟩, k + 1, by omega, ew, by omega, ?_⟩
        rw [hnx]
        have := Grow1.more (f := AV.int .i64) (l := restN L k) (a := (k : Int)) (n := (restN L k).length + 1) ht rfl
        exact this
  · have : k = L.length := by omega
    subst this
    simp [e13, e14, e15]
    obtain ⟨own, ho⟩ := hg.own
    rw [ho]
    exact Frz.slN
def acyI (h : List (List Int)) : Bool := decide ((restI (playI h).2).length ≤ 1)
theorem T_gacyc (h : List (List Int)) (hh : HsOk h) : T Try.prog 34 [.sl .no (lists' h)] (.bool (acyI h)) := by
  have k := T_left h hh
  have hn := hh.n
  have hl := (playI_len h).1
  have hrl := restN_len (playI h).2 (playI h).2.length
  have : restN (playI h).2 (playI h).2.length = restI (playI h).2 := rfl
  rw [this] at hrl
  refine T.intro (TS.body mix Try.func34 (by kernel_rfl) rfl (by kernel_rfl) (by simp) ?_)
  simp
  refine TS.callW k (Dws.self (by simp)) ?_
  simp [acyI]
  omega
end Go.Proofs.Ytahpoodcmeoabaa.PL
