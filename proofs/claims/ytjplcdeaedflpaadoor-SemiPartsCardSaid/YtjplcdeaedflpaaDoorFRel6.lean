/- Relations: what the reference tells of rows that match. -/
import Derived.Test.YtjplcdeaedflpaaDoorFRel5
namespace Go.Proofs.YtjplcdeaedflpaaDoor.PL
open Go.Proofs
set_option linter.unusedVariables false
set_option linter.unusedSimpArgs false
/-- a list that grows, behind k things, from nothing on -/
def GrowX (k sz : Nat) (J : List HO) (x : AV) (xs : List AV) : Prop := (xs = [] ∧ (x = .sl .nil [] ∨ x = .sl .exact [])) ∨ ∃ t, x = .sl (.tok (t + k)) xs ∧ J[t]? = some (.spare xs.length sz)
theorem GrowX.own {k sz : Nat} {J : List HO} {x : AV} {xs : List AV} (h : GrowX k sz J x xs) : ∃ own, x = .sl own xs := by
  rcases h with ⟨rfl, h | h⟩ | ⟨t, h, _⟩ <;> exact ⟨_, h⟩
theorem GrowX.ex0 {x : AV} (h : x = .sl .nil [] ∨ x = .sl .exact []) : x.ex = .sl .exact [] := by rcases h with rfl | rfl <;> rfl
theorem GrowX.first {α : Type} {f : α → AV} {l : List α} {a : α} {q sz : Nat} {J : List HO} {k : Nat} (hl : l = []) (hk : k = J.length + q) : GrowX q sz (J ++ [.spare 1 sz]) (.sl (.tok k) [f a]) (avs f (l ++ [a])) := by
  subst hl; subst hk; exact .inr ⟨J.length, rfl, by simp⟩
theorem GrowX.more {α : Type} {f : α → AV} {l : List α} {a : α} {q sz t n : Nat} {J : List HO} (ht : J[t]? = some (.spare (avs f l).length sz)) (hn : n = l.length + 1) : GrowX q sz (J.set t (.spare n sz)) (.sl (.tok (t + q)) (avs f (l ++ [a]))) (avs f (l ++ [a])) :=
  .inr ⟨t, rfl, by rw [List.getElem?_set_self (List.getElem?_eq_some_iff.1 ht).1]; simp [hn]⟩
theorem GrowX.app {k sz : Nat} {J L : List HO} {x : AV} {xs : List AV} (h : GrowX k sz J x xs) : GrowX k sz (J ++ L) x xs := by
  rcases h with h | ⟨t, h, ht⟩
  · exact .inl h
  · exact .inr ⟨t, h, by rw [List.getElem?_append_left (List.getElem?_eq_some_iff.1 ht).1]; exact ht⟩
theorem any_nextR {α : Type} {q : α → Bool} {l : List α} {i : Nat} (h : i < l.length) : (l.take (i + 1)).any q = ((l.take i).any q || q l[i]) := by rw [take_next h, List.any_append]; simp

def RSm (p q a b : Rel) (f : List Val → Bool) (i : Nat) (H : List HO) : Prop := ∃ c2 J x, c2.length = 2 ∧ H = .box p.cs :: .box q.cs :: .box c2 :: .box a.cs :: .box b.cs :: .box [.sl .no (ints' a.cols), x] :: J ∧ GrowX 6 1 J x (rows' ((a.rows.take i).filter f))
theorem T_sameLists04 (rs : List (List Val)) (hl : rs.length ≤ 1000000) (hr : ∀ r, r ∈ rs → r.length ≤ 1000000) : T Tryd.prog 28 [.sl .no (rows' rs), .sl .no (rows' rs)] (.bool true) := T_sameList04 rs (by omega) fun r h => by have := hr r h; omega
theorem T_rsame24 (r : Rel) (hc : r.cols.length ≤ 1000000) (hl : r.rows.length ≤ 1000000) (hr : ∀ l, l ∈ r.rows → l.length ≤ 1000000) : T Tryd.prog 12 [r.av, r.av] (.bool true) := by
  have k1 : T Tryd.prog 27 [.sl .no (ints' r.cols), .sl .no (ints' r.cols)] (.bool true) := by
    have := T_sameList21 r.cols r.cols (by omega) 
    simpa using this
  have k2 := T_sameLists04 r.rows hl hr
  refine T.intro (TS.body mix Tryd.func12 (by kernel_rfl) rfl (by kernel_rfl) (by simp) ?_)
  simp
  refine TS.callW k1 (Dws.self (by simp)) ?_
  simp
  refine GTK.callW (fun _ => ⟨k2, Dws.self (by simp)⟩) ?_
  simp
def muchR (r : Rel) : Bool := decide (20 < r.cols.length) || decide (30 < r.rows.length) || much r.rows
theorem T_rmuch24 (r : Rel) (hc : r.cols.length < 4611686018427387904) (hl : r.rows.length < 4611686018427387904) (hv : ∀ l, l ∈ r.rows → ∀ v, v ∈ l → v.s.size ≤ reachBytes) : T Tryd.prog 4 [r.av] (.bool (muchR r)) := by
  have k := T_much r.rows hl hv
  unfold muchR
  refine T.intro (TS.body mix Tryd.func4 (by kernel_rfl) rfl (by kernel_rfl) (by simp) ?_)
  simp
  by_cases h1 : 20 < r.cols.length
  · have h1' : (20 : Int) < r.cols.length := by omega
    simp [h1, h1']
    refine ⟨fun h1 h2 => ⟨h1, h2⟩, ?_⟩
    refine GTK.callW (fun h => nomatch h) (ys := []) (r := .bool true) ?_
    simp
  · have h1' : ¬ (20 : Int) < r.cols.length := by omega
    by_cases h2 : 30 < r.rows.length
    · have h2' : (30 : Int) < r.rows.length := by omega
      simp [h1, h1', h2, h2']
      refine ⟨fun h1 h2 => ⟨h1, h2⟩, ?_⟩
      refine GTK.callW (fun h => nomatch h) (ys := []) (r := .bool true) ?_
      simp
    · have h2' : ¬ (30 : Int) < r.rows.length := by omega
      simp [h1, h1', h2, h2']
      refine ⟨fun h1 h2 => ⟨h1, h2⟩, ?_⟩
      refine GTK.callW (fun _ => ⟨k, Dws.self (by simp)⟩) ?_
      simp
structure RelIn (r : Rel) : Prop where
  nc : r.cols.length < 4611686018427387904
  nr : r.rows.length < 4611686018427387904
  row : ∀ l, l ∈ r.rows → l.length < 4611686018427387904 ∧ ∀ v, v ∈ l → valIn v
theorem muchR_ok {r : Rel} (h : muchR r = false) (hi : RelIn r) : OkR r ∧ r.cols.length ≤ 20 ∧ r.rows.length ≤ 30 := by
  unfold muchR at h
  simp at h
  obtain ⟨⟨h1, h2⟩, h3⟩ := h
  obtain ⟨_, hm⟩ := much_no h3
  refine ⟨⟨by omega, by omega, fun l hl => ⟨by have := (hm l hl).1; omega, fun v hv => ⟨(hm l hl).2 v hv, ((hi.row l hl).2 v hv).2.1⟩⟩⟩, h1, h2⟩
theorem someR_ok {a b : Rel} {w : Bool} (h : OkR a) : OkR (someR a b w) := ⟨h.nc, Nat.le_trans (List.length_filter_le ..) h.nr, fun l hl => h.row l (List.mem_filter.1 hl).1⟩
end Go.Proofs.YtjplcdeaedflpaaDoor.PL
