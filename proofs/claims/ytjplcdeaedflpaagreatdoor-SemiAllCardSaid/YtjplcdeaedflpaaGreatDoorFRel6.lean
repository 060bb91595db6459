/- Relations: what the reference tells of rows that match. -/
import Derived.Test.YtjplcdeaedflpaaGreatDoorFRel5
namespace Go.Proofs.YtjplcdeaedflpaaGreatDoor.PL
open Go.Proofs
set_option linter.unusedVariables false
set_option linter.unusedSimpArgs false
/-- a list that grows, behind k things, from nothing on -/
def GrowX (k sz : Nat) (J : List HO) (x : AV) (xs : List AV) : Prop := (xs = [] ∧ (x = .sl .nil [] ∨ x = .sl .exact [])) ∨ ∃ t, x = .sl (.tok (t + k)) xs ∧ J[t]? = some (.spare xs.length sz)
theorem GrowX.own {k sz : Nat} {J : List HO} {x : AV} {xs : List AV} (h : GrowX k sz J x xs) : ∃ own, x = .sl own xs := by
  rcases h with ⟨rfl, h | h⟩ | ⟨t, h, _⟩ <;> exact ⟨_, h⟩
theorem GrowX.ex0 {x : AV} (h : x = .sl .nil [] ∨ x = .sl .exact []) : x.ex = .sl .exact [] := by rcases h with rfl | rfl <;> rfl
theorem GrowX.first {α : Type} {f : α → AV} {l : List α} {a : α} {q sz : Nat} {J : List HO} {k : Nat} (hl : l = []) (hk : k = J.length + q) : GrowX q sz (J ++ [.spare 1 sz]) (.sl (.tok k) [f a]) (avs f (l ++ [a])) := by
  subst hl; subst hk; exact .inr ⟨J.length, rfl, by simp⟩
theorem GrowX.more {α : Type} {f : α → AV} {l : List α} {a : α} {q sz t n : Nat} {J : List HO} (ht : J[t]? = some (.spare (avs f l).length sz)) (hn : n = l.length + 1) : GrowX q sz (J.set t (.spare n sz)) (.sl (.tok (t + q)) (avs f (l ++ [a]))) (avs f (l ++ [a])) :=
  .inr ⟨t, rfl, by rw [List.getElem?_set_self (List.getElem?_eq_some_iff.1 ht).1]; simp [hn]⟩
theorem GrowX.app {k sz : Nat} {J L : List HO} {x : AV} {xs : List AV} (h : GrowX k sz J x xs) : GrowX k sz (J ++ L) x xs := by
  rcases h with h | ⟨t, h, ht⟩
  · exact .inl h
  · exact .inr ⟨t, h, by rw [List.getElem?_append_left (List.getElem?_eq_some_iff.1 ht).1]; exact ht⟩
theorem any_nextR {α : Type} {q : α → Bool} {l : List α} {i : Nat} (h : i < l.length) : (l.take (i + 1)).any q = ((l.take i).any q || q l[i]) := by rw [take_next h, List.any_append]; simp
theorem T_rmeet (a b : Rel) (x y : List Val) (ha : OkR a) (hb : OkR b) (hx : x ∈ a.rows) (hy : y ∈ b.rows) : T Tryz.prog 53 [a.av, rowA x, b.av, rowA y] (.bool (meetB a b x y)) := by
  have hnc := ha.nc
  have hnb := hb.nc
  have hbl := bothR_len a b
  have hxr := ha.row x hx
  have hyr := hb.row y hy
  have k1 := T_rshared21 a.cols b.cols (by omega) (by omega)
  have k2 := T_rvalues24 a x (bothR a b) hnc hxr.1 (by omega)
  have k3 := T_rvalues24 b y (bothR a b) hnb hyr.1 (by omega)
  have k4 := T_rmatch24 (valsF a.cols x (bothR a b)) (valsF b.cols y (bothR a b)) (by simp [valsF]; omega) fun v hv => by have := (valsF_ok ha hx (bothR a b)).2 v hv; omega
  refine T.intro (TS.body mix Tryz.func53 (by kernel_rfl) rfl (by kernel_rfl) (by simp) ?_)
  simp
  refine TS.callW k1 (Dws.self (by simp)) ?_
  simp
  refine TDK.callW k2 (Dws.self (by simp)) ?_
  simp
  refine TDK.callW k3 (Dws.self (by simp)) ?_
  simp
  refine TDK.callW k4 (Dws.self (by simp)) ?_
  simp [meetB]
def RSm (p q a b : Rel) (f : List Val → Bool) (i : Nat) (H : List HO) : Prop := ∃ c2 J x, c2.length = 2 ∧ H = .box p.cs :: .box q.cs :: .box c2 :: .box a.cs :: .box b.cs :: .box [.sl .no (ints' a.cols), x] :: J ∧ GrowX 6 1 J x (rows' ((a.rows.take i).filter f))
theorem T_rsome24 (p q : Rel) (w : Bool) (hp : OkR p) (hq : OkR q) : T Tryz.prog 16 [p.av, q.av, .bool w] (someR (heldR p) (heldR q) w).av := by
  have k1 := T_rheld24 p hp
  have k2 := T_rheld24 q hq
  have ha := heldR_ok hp
  have hb := heldR_ok hq
  obtain ⟨a, haa⟩ : ∃ a, a = heldR p := ⟨_, rfl⟩
  obtain ⟨b, hbb⟩ : ∃ b, b = heldR q := ⟨_, rfl⟩
  rw [← haa] at k1 ha ⊢
  rw [← hbb] at k2 hb ⊢
  have hnr := ha.nr
  have hnb := hb.nr
  obtain ⟨f, hf⟩ : ∃ f : List Val → Bool, f = fun x => (b.rows.any fun y => meetB a b x y) == w := ⟨_, rfl⟩
  have hsr : someR a b w = ⟨a.cols, a.rows.filter f⟩ := by rw [hf]; rfl
  rw [hsr]
  refine T.introF (TS.bodyM [300001, 1010600, 1010601, 1010602, 1010603, 1010604, 1010605, 1010700, 1010701, 1010702, 1010703, 1010704, 1010705, 1010706] mix Tryz.func16 (by kernel_rfl) rfl (by kernel_rfl) (by simp) ?_)
  simp
  refine TDK.callW k1 (Dws.self (by simp)) ?_
  simp
  refine TDK.callW k2 (Dws.self (by simp)) ?_
  simp
  refine vc_loop (fun i : Nat => a.rows.length - i) (fun i e H => e 2 = .bool w ∧ e 6 = .ptr 2 0 ∧ e 7 = .ptr 3 0 ∧ e 8 = .ptr 4 0 ∧ e 9 = .ptr 5 0 ∧ e 10 = .int .i64 i ∧ i ≤ a.rows.length ∧ RSm p q a b f i H) 0 ?_ ?_
  · simp
    exact ⟨_, _, _, rfl, rfl, .inl ⟨by simp, .inr rfl⟩⟩
  rintro i e H ⟨e2, e6, e7, e8, e9, e10, hi, c2, J, x, hc2, rfl, hg⟩
  by_cases hlt : i < a.rows.length
  · have ew := wrap_next hlt (by omega)
    have hnx := filter_nextR (q := f) hlt
    have hfl : ((a.rows.take i).filter f).length ≤ i := Nat.le_trans (List.length_filter_le ..) (by simp; omega)
    have hxm := List.getElem_mem hlt
    obtain ⟨M, hM⟩ : ∃ M, M = .box p.cs :: .box q.cs :: .box c2 :: .box a.cs :: .box b.cs :: .box [.sl .no (ints' a.cols), x] :: J := ⟨_, rfl⟩
    have m3 : M[3]? = some (.box a.cs) := by rw [hM]; rfl
    have m4 : M[4]? = some (.box b.cs) := by rw [hM]; rfl
    rw [← hM]
    simp [e2, e6, e7, e8, e9, e10, hlt, m3]
    refine vc_loop (fun k : Nat => b.rows.length - k) (fun k e H => e 2 = .bool w ∧ e 6 = .ptr 2 0 ∧ e 7 = .ptr 3 0 ∧ e 8 = .ptr 4 0 ∧ e 9 = .ptr 5 0 ∧ e 10 = .int .i64 i ∧ e 11 = .bool ((b.rows.take k).any fun y => meetB a b a.rows[i] y) ∧ e 12 = .int .i64 k ∧ k ≤ b.rows.length ∧ H = M) 0 ?_ ?_
    · simp [e2, e6, e7, e8, e9, e10]
    clear e2 e6 e7 e8 e9 e10 e
    rintro k e H ⟨e2, e6, e7, e8, e9, e10, e11, e12, hk, rfl⟩
    by_cases hkl : k < b.rows.length
    · have ewk := wrap_next hkl (by omega)
      have km := T_rmeet a b a.rows[i] b.rows[k] ha hb hxm (List.getElem_mem hkl)
      have hnk := any_nextR (q := fun y => meetB a b a.rows[i] y) hkl
      cases hany : ((b.rows.take k).any fun y => meetB a b a.rows[i] y) with
      | true =>
        rw [hany] at e11 hnk
        rw [Bool.true_or] at hnk
        simp [e2, e6, e7, e8, e9, e10, e11, e12, hkl, hlt, m3, m4]
        refine GTK.callW (fun h => nomatch h) (ys := []) (r := .bool true) ?_
        simp [e2, e6, e7, e8, e9, e10, e11, e12, hkl, hlt, m3, m4]
        exact ⟨k + 1, by omega, by simpa using hnk, ewk, by omega⟩
      | false =>
        rw [hany] at e11 hnk
        rw [Bool.false_or] at hnk
        simp [e2, e6, e7, e8, e9, e10, e11, e12, hkl, hlt, m3, m4]
        refine GTK.callW (fun _ => ⟨km, Dws.self (by simp)⟩) ?_
        simp [e2, e6, e7, e8, e9, e10, e11, e12, hkl, hlt, m3, m4]
        exact ⟨k + 1, by omega, by rw [hnk], ewk, by omega⟩
    · have : k = b.rows.length := by omega
      subst this
      rw [List.take_length] at e11
      have hfi : ((b.rows.any fun y => meetB a b a.rows[i] y) == w) = f a.rows[i] := by rw [hf]
      simp [e2, e6, e7, e8, e9, e10, e11, e12, m3, m4]
      rw [hfi]
      cases hc : f a.rows[i] with
      | true =>
        rw [hc, if_pos rfl] at hnx
        subst hM
        rcases hg with ⟨ge, zx⟩ | ⟨t, rfl, ht⟩
        · rw [avs_eq_nil] at ge
          have ex := GrowX.ex0 zx
          simp [e2, e6, e7, e8, e9, e10, e11, e12, hlt, ex]
          refine ⟨i + 1, by omega, ew, by omega, c2, _, _, hc2, rfl, ?_⟩
          rw [hnx]
          exact GrowX.first (f := fun r => AV.sl .no (vals' r)) ge rfl
        · have hw := ht
          simp only [avs_length] at hw
          simp [e2, e6, e7, e8, e9, e10, e11, e12, hlt, hw]
          refine ⟨by omega, i + 1, by omega, ew, by omega, c2, _, _, hc2, rfl, ?_⟩
          rw [hnx]
          exact GrowX.more (f := fun r => AV.sl .no (vals' r)) ht (by omega)
      | false =>
        rw [hc, if_neg (by simp), List.append_nil] at hnx
        subst hM
        simp [e2, e6, e7, e8, e9, e10, e11, e12]
        exact ⟨i + 1, by omega, ew, by omega, c2, _, _, hc2, rfl, by rw [hnx]; exact hg⟩
  · have : i = a.rows.length := by omega
    subst this
    rw [List.take_length] at hg
    obtain ⟨own, rfl⟩ := hg.own
    match c2, hc2 with
    | [u0, u1], _ =>
    simp [e2, e6, e7, e8, e9, e10]
    exact .agg (.cons (Frz.slN (f := AV.int .i64)) (.cons (Frz.slN (f := fun r => AV.sl .no (vals' r))) .nil))
theorem T_sameLists04 (rs : List (List Val)) (hl : rs.length ≤ 1000000) (hr : ∀ r, r ∈ rs → r.length ≤ 1000000) : T Tryz.prog 50 [.sl .no (rows' rs), .sl .no (rows' rs)] (.bool true) := T_sameList04 rs (by omega) fun r h => by have := hr r h; omega
theorem T_rsame24 (r : Rel) (hc : r.cols.length ≤ 1000000) (hl : r.rows.length ≤ 1000000) (hr : ∀ l, l ∈ r.rows → l.length ≤ 1000000) : T Tryz.prog 14 [r.av, r.av] (.bool true) := by
  have k1 : T Tryz.prog 41 [.sl .no (ints' r.cols), .sl .no (ints' r.cols)] (.bool true) := by
    have := T_sameList21 r.cols r.cols (by omega) 
    simpa using this
  have k2 := T_sameLists04 r.rows hl hr
  refine T.intro (TS.body mix Tryz.func14 (by kernel_rfl) rfl (by kernel_rfl) (by simp) ?_)
  simp
  refine TS.callW k1 (Dws.self (by simp)) ?_
  simp
  refine GTK.callW (fun _ => ⟨k2, Dws.self (by simp)⟩) ?_
  simp
def muchR (r : Rel) : Bool := decide (20 < r.cols.length) || decide (30 < r.rows.length) || much r.rows
theorem T_rmuch24 (r : Rel) (hc : r.cols.length < 4611686018427387904) (hl : r.rows.length < 4611686018427387904) (hv : ∀ l, l ∈ r.rows → ∀ v, v ∈ l → v.s.size ≤ reachBytes) : T Tryz.prog 10 [r.av] (.bool (muchR r)) := by
  have k := T_much r.rows hl hv
  unfold muchR
  refine T.intro (TS.body mix Tryz.func10 (by kernel_rfl) rfl (by kernel_rfl) (by simp) ?_)
  simp
  by_cases h1 : 20 < r.cols.length
  · have h1' : (20 : Int) < r.cols.length := by omega
    simp [h1, h1']
    refine ⟨fun h1 h2 => ⟨h1, h2⟩, ?_⟩
    refine GTK.callW (fun h => nomatch h) (ys := []) (r := .bool true) ?_
    simp
  · have h1' : ¬ (20 : Int) < r.cols.length := by omega
    by_cases h2 : 30 < r.rows.length
    · have h2' : (30 : Int) < r.rows.length := by omega
      simp [h1, h1', h2, h2']
      refine ⟨fun h1 h2 => ⟨h1, h2⟩, ?_⟩
      refine GTK.callW (fun h => nomatch h) (ys := []) (r := .bool true) ?_
      simp
    · have h2' : ¬ (30 : Int) < r.rows.length := by omega
      simp [h1, h1', h2, h2']
      refine ⟨fun h1 h2 => ⟨h1, h2⟩, ?_⟩
      refine GTK.callW (fun _ => ⟨k, Dws.self (by simp)⟩) ?_
      simp
structure RelIn (r : Rel) : Prop where
  nc : r.cols.length < 4611686018427387904
  nr : r.rows.length < 4611686018427387904
  row : ∀ l, l ∈ r.rows → l.length < 4611686018427387904 ∧ ∀ v, v ∈ l → valIn v
theorem muchR_ok {r : Rel} (h : muchR r = false) (hi : RelIn r) : OkR r ∧ r.cols.length ≤ 20 ∧ r.rows.length ≤ 30 := by
  unfold muchR at h
  simp at h
  obtain ⟨⟨h1, h2⟩, h3⟩ := h
  obtain ⟨_, hm⟩ := much_no h3
  refine ⟨⟨by omega, by omega, fun l hl => ⟨by have := (hm l hl).1; omega, fun v hv => ⟨(hm l hl).2 v hv, ((hi.row l hl).2 v hv).2.1⟩⟩⟩, h1, h2⟩
theorem someR_ok {a b : Rel} {w : Bool} (h : OkR a) : OkR (someR a b w) := ⟨h.nc, Nat.le_trans (List.length_filter_le ..) h.nr, fun l hl => h.row l (List.mem_filter.1 hl).1⟩
end Go.Proofs.YtjplcdeaedflpaaGreatDoor.PL
