/- Contracts of functions of the program, and plain laws (part 5): Relations: what the reference tells of rows that match; Halves: up and down a tree; Lists of numbers put together by the library; Relations: both together; Relations: both together, by the reference; Relations, in plain words: all together, in whatever order; Relations, in plain words: what programs of semijoins leave; Relations: all together, in the program and by the reference; Relations: any two  all together, in whatever order; Relations: all together, in whatever order. -/
import Derived.Test.YtjplcdeaedflpaaGreatDoorB0
import Derived.Test.YtjplcdeaedflpaaGreatDoorB1
import Derived.Test.YtjplcdeaedflpaaGreatDoorB3
import Derived.Test.YtjplcdeaedflpaaGreatDoorB4
namespace Go.Proofs.YtjplcdeaedflpaaGreatDoor.PL
open Go.Proofs
set_option linter.unusedVariables false
set_option linter.unusedSimpArgs false
/-- a list that grows, behind k things, from nothing on -/
def GrowX (k sz : Nat) (J : List HO) (x : AV) (xs : List AV) : Prop := (xs = [] ∧ (x = .sl .nil [] ∨ x = .sl .exact [])) ∨ ∃ t, x = .sl (.tok (t + k)) xs ∧ J[t]? = some (.spare xs.length sz)
theorem GrowX.own {k sz : Nat} {J : List HO} {x : AV} {xs : List AV} (h : GrowX k sz J x xs) : ∃ own, x = .sl own xs := by
  rcases h with ⟨rfl, h | h⟩ | ⟨t, h, _⟩ <;> exact ⟨_, h⟩
theorem GrowX.ex0 {x : AV} (h : x = .sl .nil [] ∨ x = .sl .exact []) : x.ex = .sl .exact [] := by rcases h with rfl | rfl <;> rfl
theorem GrowX.first {α : Type} {f : α → AV} {l : List α} {a : α} {q sz : Nat} {J : List HO} {k : Nat} (hl : l = []) (hk : k = J.length + q) : GrowX q sz (J ++ [.spare 1 sz]) (.sl (.tok k) [f a]) (avs f (l ++ [a])) := by
  subst hl; subst hk; exact .inr ⟨J.length, rfl, by simp⟩
theorem GrowX.more {α : Type} {f : α → AV} {l : List α} {a : α} {q sz t n : Nat} {J : List HO} (ht : J[t]? = some (.spare (avs f l).length sz)) (hn : n = l.length + 1) : GrowX q sz (J.set t (.spare n sz)) (.sl (.tok (t + q)) (avs f (l ++ [a]))) (avs f (l ++ [a])) :=
  .inr ⟨t, rfl, by rw [List.getElem?_set_self (List.getElem?_eq_some_iff.1 ht).1]; simp [hn]⟩
theorem GrowX.app {k sz : Nat} {J L : List HO} {x : AV} {xs : List AV} (h : GrowX k sz J x xs) : GrowX k sz (J ++ L) x xs := by
  rcases h with h | ⟨t, h, ht⟩
  · exact .inl h
  · exact .inr ⟨t, h, by rw [List.getElem?_append_left (List.getElem?_eq_some_iff.1 ht).1]; exact ht⟩
theorem any_nextR {α : Type} {q : α → Bool} {l : List α} {i : Nat} (h : i < l.length) : (l.take (i + 1)).any q = ((l.take i).any q || q l[i]) := by rw [take_next h, List.any_append]; simp
theorem T_rmeet (a b : Rel) (x y : List Val) (ha : OkR a) (hb : OkR b) (hx : x ∈ a.rows) (hy : y ∈ b.rows) : T Tryz.prog 53 [a.av, rowA x, b.av, rowA y] (.bool (meetB a b x y)) := by
  have hnc := ha.nc
  have hnb := hb.nc
  have hbl := bothR_len a b
  have hxr := ha.row x hx
  have hyr := hb.row y hy
  have k1 := T_rshared21 a.cols b.cols (by omega) (by omega)
  have k2 := T_rvalues24 a x (bothR a b) hnc hxr.1 (by omega)
  have k3 := T_rvalues24 b y (bothR a b) hnb hyr.1 (by omega)
  have k4 := T_rmatch24 (valsF a.cols x (bothR a b)) (valsF b.cols y (bothR a b)) (by simp [valsF]; omega) fun v hv => by have := (valsF_ok ha hx (bothR a b)).2 v hv; omega
  refine T.intro (TS.body mix Tryz.func53 (by kernel_rfl) rfl (by kernel_rfl) (by simp) ?_)
  simp
  refine TS.callW k1 (Dws.self (by simp)) ?_
  simp
  refine TDK.callW k2 (Dws.self (by simp)) ?_
  simp
  refine TDK.callW k3 (Dws.self (by simp)) ?_
  simp
  refine TDK.callW k4 (Dws.self (by simp)) ?_
  simp [meetB]
def RSm (p q a b : Rel) (f : List Val → Bool) (i : Nat) (H : List HO) : Prop := ∃ c2 J x, c2.length = 2 ∧ H = .box p.cs :: .box q.cs :: .box c2 :: .box a.cs :: .box b.cs :: .box [.sl .no (ints' a.cols), x] :: J ∧ GrowX 6 1 J x (rows' ((a.rows.take i).filter f))
theorem T_rsome24 (p q : Rel) (w : Bool) (hp : OkR p) (hq : OkR q) : T Tryz.prog 16 [p.av, q.av, .bool w] (someR (heldR p) (heldR q) w).av := by
  have k1 := T_rheld24 p hp
  have k2 := T_rheld24 q hq
  have ha := heldR_ok hp
  have hb := heldR_ok hq
  obtain ⟨a, haa⟩ : ∃ a, a = heldR p := ⟨_, rfl⟩
  obtain ⟨b, hbb⟩ : ∃ b, b = heldR q := ⟨_, rfl⟩
  rw [← haa] at k1 ha ⊢
  rw [← hbb] at k2 hb ⊢
  have hnr := ha.nr
  have hnb := hb.nr
  obtain ⟨f, hf⟩ : ∃ f : List Val → Bool, f = fun x => (b.rows.any fun y => meetB a b x y) == w := ⟨_, rfl⟩
  have hsr : someR a b w = ⟨a.cols, a.rows.filter f⟩ := by rw [hf]; rfl
  rw [hsr]
  refine T.introF (TS.bodyM [300001, 1010600, 1010601, 1010602, 1010603, 1010604, 1010605, 1010700, 1010701, 1010702, 1010703, 1010704, 1010705, 1010706] mix Tryz.func16 (by kernel_rfl) rfl (by kernel_rfl) (by simp) ?_)
  simp
  refine TDK.callW k1 (Dws.self (by simp)) ?_
  simp
  refine TDK.callW k2 (Dws.self (by simp)) ?_
  simp
  refine vc_loop (fun i : Nat => a.rows.length - i) (fun i e H => e 2 = .bool w ∧ e 6 = .ptr 2 0 ∧ e 7 = .ptr 3 0 ∧ e 8 = .ptr 4 0 ∧ e 9 = .ptr 5 0 ∧ e 10 = .int .i64 i ∧ i ≤ a.rows.length ∧ RSm p q a b f i H) 0 ?_ ?_
  · simp
    exact ⟨_, _, _, rfl, rfl, .inl ⟨by simp, .inr rfl⟩⟩
  rintro i e H ⟨e2, e6, e7, e8, e9, e10, hi, c2, J, x, hc2, rfl, hg⟩
  by_cases hlt : i < a.rows.length
  · have ew := wrap_next hlt (by omega)
    have hnx := filter_nextR (q := f) hlt
    have hfl : ((a.rows.take i).filter f).length ≤ i := Nat.le_trans (List.length_filter_le ..) (by simp; omega)
    have hxm := List.getElem_mem hlt
    obtain ⟨M, hM⟩ : ∃ M, M = .box p.cs :: .box q.cs :: .box c2 :: .box a.cs :: .box b.cs :: .box [.sl .no (ints' a.cols), x] :: J := ⟨_, rfl⟩
    have m3 : M[3]? = some (.box a.cs) := by rw [hM]; rfl
    have m4 : M[4]? = some (.box b.cs) := by rw [hM]; rfl
    rw [← hM]
    simp [e2, e6, e7, e8, e9, e10, hlt, m3]
    refine vc_loop (fun k : Nat => b.rows.length - k) (fun k e H => e 2 = .bool w ∧ e 6 = .ptr 2 0 ∧ e 7 = .ptr 3 0 ∧ e 8 = .ptr 4 0 ∧ e 9 = .ptr 5 0 ∧ e 10 = .int .i64 i ∧ e 11 = .bool ((b.rows.take k).any fun y => meetB a b a.rows[i] y) ∧ e 12 = .int .i64 k ∧ k ≤ b.rows.length ∧ H = M) 0 ?_ ?_
    · simp [e2, e6, e7, e8, e9, e10]
    clear e2 e6 e7 e8 e9 e10 e
    rintro k e H ⟨e2, e6, e7, e8, e9, e10, e11, e12, hk, rfl⟩
    by_cases hkl : k < b.rows.length
    · have ewk := wrap_next hkl (by omega)
      have km := T_rmeet a b a.rows[i] b.rows[k] ha hb hxm (List.getElem_mem hkl)
      have hnk := any_nextR (q := fun y => meetB a b a.rows[i] y) hkl
      cases hany : ((b.rows.take k).any fun y => meetB a b a.rows[i] y) with
      | true =>
        rw [hany] at e11 hnk
        rw [Bool.true_or] at hnk
        simp [e2, e6, e7, e8, e9, e10, e11, e12, hkl, hlt, m3, m4]
        refine GTK.callW (fun h => nomatch h) (ys := []) (r := .bool true) ?_
        simp [e2, e6, e7, e8, e9, e10, e11, e12, hkl, hlt, m3, m4]
        exact ⟨k + 1, by omega, by simpa using hnk, ewk, by omega⟩
      | false =>
        rw [hany] at e11 hnk
        rw [Bool.false_or] at hnk
        simp [e2, e6, e7, e8, e9, e10, e11, e12, hkl, hlt, m3, m4]
        refine GTK.callW (fun _ => ⟨km, Dws.self (by simp)⟩) ?_
        simp [e2, e6, e7, e8, e9, e10, e11, e12, hkl, hlt, m3, m4]
        exact ⟨k + 1, by omega, by rw [hnk], ewk, by omega⟩
    · have : k = b.rows.length := by omega
      subst this
      rw [List.take_length] at e11
      have hfi : ((b.rows.any fun y => meetB a b a.rows[i] y) == w) = f a.rows[i] := by rw [hf]
      simp [e2, e6, e7, e8, e9, e10, e11, e12, m3, m4]
      rw [hfi]
      cases hc : f a.rows[i] with
      | true =>
        rw [hc, if_pos rfl] at hnx
        subst hM
        rcases hg with ⟨ge, zx⟩ | ⟨t, rfl, ht⟩
        · rw [avs_eq_nil] at ge
          have ex := GrowX.ex0 zx
          simp [e2, e6, e7, e8, e9, e10, e11, e12, hlt, ex]
          refine ⟨i + 1, by omega, ew, by omega, c2, _, _, hc2, rfl, ?_⟩
          rw [hnx]
          exact GrowX.first (f := fun r => AV.sl .no (vals' r)) ge rfl
        · have hw := ht
          simp only [avs_length] at hw
          simp [e2, e6, e7, e8, e9, e10, e11, e12, hlt, hw]
          refine ⟨by omega, i + 1, by omega, ew, by omega, c2, _, _, hc2, rfl, ?_⟩
          rw [hnx]
          exact GrowX.more (f := fun r => AV.sl .no (vals' r)) ht (by omega)
      | false =>
        rw [hc, if_neg (by simp), List.append_nil] at hnx
        subst hM
        simp [e2, e6, e7, e8, e9, e10, e11, e12]
        exact ⟨i + 1, by omega, ew, by omega, c2, _, _, hc2, rfl, by rw [hnx]; exact hg⟩
  · have : i = a.rows.length := by omega
    subst this
    rw [List.take_length] at hg
    obtain ⟨own, rfl⟩ := hg.own
    match c2, hc2 with
    | [u0, u1], _ =>
    simp [e2, e6, e7, e8, e9, e10]
    exact .agg (.cons (Frz.slN (f := AV.int .i64)) (.cons (Frz.slN (f := fun r => AV.sl .no (vals' r))) .nil))
theorem T_sameLists04 (rs : List (List Val)) (hl : rs.length ≤ 1000000) (hr : ∀ r, r ∈ rs → r.length ≤ 1000000) : T Tryz.prog 50 [.sl .no (rows' rs), .sl .no (rows' rs)] (.bool true) := T_sameList04 rs (by omega) fun r h => by have := hr r h; omega
theorem T_rsame24 (r : Rel) (hc : r.cols.length ≤ 1000000) (hl : r.rows.length ≤ 1000000) (hr : ∀ l, l ∈ r.rows → l.length ≤ 1000000) : T Tryz.prog 14 [r.av, r.av] (.bool true) := by
  have k1 : T Tryz.prog 41 [.sl .no (ints' r.cols), .sl .no (ints' r.cols)] (.bool true) := by
    have := T_sameList21 r.cols r.cols (by omega) 
    simpa using this
  have k2 := T_sameLists04 r.rows hl hr
  refine T.intro (TS.body mix Tryz.func14 (by kernel_rfl) rfl (by kernel_rfl) (by simp) ?_)
  simp
  refine TS.callW k1 (Dws.self (by simp)) ?_
  simp
  refine GTK.callW (fun _ => ⟨k2, Dws.self (by simp)⟩) ?_
  simp
def muchR (r : Rel) : Bool := decide (20 < r.cols.length) || decide (30 < r.rows.length) || much r.rows
theorem T_rmuch24 (r : Rel) (hc : r.cols.length < 4611686018427387904) (hl : r.rows.length < 4611686018427387904) (hv : ∀ l, l ∈ r.rows → ∀ v, v ∈ l → v.s.size ≤ reachBytes) : T Tryz.prog 10 [r.av] (.bool (muchR r)) := by
  have k := T_much r.rows hl hv
  unfold muchR
  refine T.intro (TS.body mix Tryz.func10 (by kernel_rfl) rfl (by kernel_rfl) (by simp) ?_)
  simp
  by_cases h1 : 20 < r.cols.length
  · have h1' : (20 : Int) < r.cols.length := by omega
    simp [h1, h1']
    refine ⟨fun h1 h2 => ⟨h1, h2⟩, ?_⟩
    refine GTK.callW (fun h => nomatch h) (ys := []) (r := .bool true) ?_
    simp
  · have h1' : ¬ (20 : Int) < r.cols.length := by omega
    by_cases h2 : 30 < r.rows.length
    · have h2' : (30 : Int) < r.rows.length := by omega
      simp [h1, h1', h2, h2']
      refine ⟨fun h1 h2 => ⟨h1, h2⟩, ?_⟩
      refine GTK.callW (fun h => nomatch h) (ys := []) (r := .bool true) ?_
      simp
    · have h2' : ¬ (30 : Int) < r.rows.length := by omega
      simp [h1, h1', h2, h2']
      refine ⟨fun h1 h2 => ⟨h1, h2⟩, ?_⟩
      refine GTK.callW (fun _ => ⟨k, Dws.self (by simp)⟩) ?_
      simp
structure RelIn (r : Rel) : Prop where
  nc : r.cols.length < 4611686018427387904
  nr : r.rows.length < 4611686018427387904
  row : ∀ l, l ∈ r.rows → l.length < 4611686018427387904 ∧ ∀ v, v ∈ l → valIn v
theorem muchR_ok {r : Rel} (h : muchR r = false) (hi : RelIn r) : OkR r ∧ r.cols.length ≤ 20 ∧ r.rows.length ≤ 30 := by
  unfold muchR at h
  simp at h
  obtain ⟨⟨h1, h2⟩, h3⟩ := h
  obtain ⟨_, hm⟩ := much_no h3
  refine ⟨⟨by omega, by omega, fun l hl => ⟨by have := (hm l hl).1; omega, fun v hv => ⟨(hm l hl).2 v hv, ((hi.row l hl).2 v hv).2.1⟩⟩⟩, h1, h2⟩
theorem someR_ok {a b : Rel} {w : Bool} (h : OkR a) : OkR (someR a b w) := ⟨h.nc, Nat.le_trans (List.length_filter_le ..) h.nr, fun l hl => h.row l (List.mem_filter.1 hl).1⟩
end Go.Proofs.YtjplcdeaedflpaaGreatDoor.PL
namespace Go.Proofs.YtjplcdeaedflpaaGreatDoor.PL
open Go.Proofs Go.RowKit
set_option linter.unusedVariables false
set_option linter.unusedSimpArgs false
@[simp] abbrev halfA (p : Int × Int) : AV := .agg [.int .i64 p.1, .int .i64 p.2]
instance : Sized halfA 2 := ⟨fun _ => rfl⟩
instance : Plain halfA := ⟨fun _ => rfl⟩
instance : Selfs halfA := ⟨fun a x h => by simp at h; rcases h with rfl | rfl <;> simp⟩
abbrev halves' (l : List (Int × Int)) : List AV := avs halfA l
def belowL (ps : List Int) : List (Int × Int) := belowP ps (downI (heldI ps))
theorem belowL_len (ps : List Int) : (belowL ps).length ≤ ps.length := by
  unfold belowL belowP
  rw [List.length_map]
  refine Nat.le_trans (List.length_filter_le ..) ?_
  rw [downI_len]
  exact heldI_len ps
theorem S_below (ps : List Int) (H : List HO) : TS Tryz.prog 67 [.sl .no (ints' ps)] H (pt (.fn (.func 105) [] [.ptr H.length 0]) (H ++ [.box [.sl .no (ints' ps)]])) := by
  refine TS.body mix Tryz.func67 (by kernel_rfl) rfl (by kernel_rfl) (by simp) ?_
  simp
def DJ (ps : List Int) (k : Nat) (x : Obj) (H : List HO) : Prop := ∃ c L, H = .box [c] :: .box [.sl .no (ints' ps)] :: .raw (.deferred (some [])) :: .raw x :: L ∧ GrowX 4 2 L c (halves' ((belowL ps).take k))
theorem half_get {l : List (Int × Int)} {k : Nat} (h : k < (l.map halfIn).length) : ∃ h' : k < l.length, (l.map halfIn).getD k [] = [.int .i64 l[k].1, .int .i64 l[k].2] := by
  have h' : k < l.length := by simpa using h
  refine ⟨h', ?_⟩
  rw [List.getD_eq_getElem?_getD, List.getElem?_eq_getElem h]
  simp
theorem T_rdDown (ps : List Int) (hl : ps.length < 60) : T Tryz.prog 28 [.sl .no (ints' ps)] (.sl .no (halves' (belowL ps))) := by
  have hbl := belowL_len ps
  refine T.introF (TS.ranged [] Tryz.func28 (by kernel_rfl) rfl (by kernel_rfl) (by simp) (below_it ps hl 1) (enters_of Tryz.func105 (by kernel_rfl) rfl) (fun k hk => ?_) ?_)
  · obtain ⟨h', e⟩ := half_get hk
    rw [e]; rfl
  simp
  refine TS.pt (S_below ps _) ?_
  simp
  refine ⟨rfl, by simp, DJ ps, fun x => ⟨_, [], rfl, .inl ⟨by simp, .inr rfl⟩⟩, ?_, ?_, ?_⟩
  · rintro k x H' ⟨c, L, rfl, hg⟩
    exact ⟨rfl, rfl, rfl, fun y => ⟨c, L, rfl, hg⟩⟩
  · rintro k x H' hk ⟨c, L, rfl, hg⟩
    obtain ⟨hk', e⟩ := half_get hk
    have hnx : (belowL ps).take (k + 1) = (belowL ps).take k ++ [(belowL ps)[k]'hk'] := take_next hk'
    have hml : ((belowL ps).take k).length = k := by
      have : k < (belowL ps).length := hk'
      simp; omega
    rw [e]
    obtain ⟨p, hp⟩ : ∃ p, p = (belowL ps)[k]'hk' := ⟨_, rfl⟩
    rw [← hp] at hnx
    have hp' : (belowP ps (downI (heldI ps)))[k]'hk' = p := hp.symm
    rw [hp']
    rcases hg with ⟨ge, zx⟩ | ⟨t, rfl, ht⟩
    · rw [avs_eq_nil] at ge
      have ex := GrowX.ex0 zx
      simp [setps, ex]
      refine fun y => ⟨_, _, rfl, ?_⟩
      rw [hnx]
      exact GrowX.first (f := halfA) ge rfl
    · have hw := ht
      simp only [avs_length] at hw
      simp [setps, hw]
      have hk2 : k < (belowL ps).length := hk'
      refine fun y => ⟨⟨by omega, by omega⟩, _, _, rfl, ?_⟩
      rw [hnx]
      exact GrowX.more (f := halfA) ht (by omega)
  · rintro x H' ⟨c, L, rfl, hg⟩
    rw [List.length_map] at hg
    have : (belowL ps).take (belowP ps (downI (heldI ps))).length = belowL ps := List.take_length
    rw [this] at hg
    obtain ⟨own, rfl⟩ := hg.own
    simp
    exact Frz.slN (f := halfA)
theorem S_revH0 (H : List HO) (own : Own) : TS Tryz.prog 68 [.sl own []] H (pt (.tup []) H) := by
  refine TS.body mix Tryz.func68 (by kernel_rfl) rfl (by kernel_rfl) (by simp) ?_
  simp
  refine vc_loop (fun i : Nat => 0) (fun i e H' => e 2 = .int .i64 0 ∧ e 3 = .int .i64 (-1) ∧ H' = H) 0 ?_ ?_
  · simp
  rintro i e H' ⟨h2, h3, rfl⟩
  simp [h2, h3]
theorem S_revH (H : List HO) (r n : Nat) (xs : List (Int × Int)) (hn : xs.length = n) (hr : H[r]? = some (.row n 2 ((halves' xs).flatMap AV.cells))) (hp : 0 < n) (hl : n ≤ 1000000) : TS Tryz.prog 68 [.mv r n 2 0 n] H (pt (.tup []) (H.set r (.row n 2 ((halves' xs.reverse).flatMap AV.cells)))) := by
  have hrl := (List.getElem?_eq_some_iff.1 hr).1
  have h00 : H = H.set r (.row n 2 ((halves' xs).flatMap AV.cells)) := by
    have : H[r] = .row n 2 ((halves' xs).flatMap AV.cells) := by rw [List.getElem?_eq_getElem hrl] at hr; exact Option.some.inj hr
    rw [← this, List.set_getElem_self]
  have w0 : IntKind.i64.wrap ((n : Int) - 1) = ((n - 1 : Nat) : Int) := by rw [wrap_i64 (by omega) (by omega)]; omega
  refine TS.body mix Tryz.func68 (by kernel_rfl) rfl (by kernel_rfl) (by simp) ?_
  simp [w0]
  refine vc_loop (fun i : Nat => n - i) (fun i e H' => ∃ (L : List (Int × Int)) (j : Nat), e 0 = .mv r n 2 0 n ∧ e 2 = .int .i64 i ∧ e 3 = .int .i64 (j : Int) ∧ j + i + 1 = n ∧ i ≤ j + 1 ∧ L.length = n ∧ (∀ k, k < n → L[k]? = if k < i ∨ j < k then xs[n - 1 - k]? else xs[k]?) ∧ H' = H.set r (.row n 2 ((halves' L).flatMap AV.cells))) 0 ?_ ?_
  · exact ⟨xs, n - 1, by simp, by simp, by simp, by omega, by omega, hn, fun k hk => by rw [if_neg (by omega)], h00⟩
  rintro i e H' ⟨L, j, h0, h2, h3, hij, hij2, hL, hk, rfl⟩
  by_cases hlt : i < j
  · have hiL : i < L.length := by omega
    have hjL : j < L.length := by omega
    have ew := wrap_next (i := i) (n := n) (by omega) (by omega)
    have w1 : IntKind.i64.wrap ((j : Int) - 1) = ((j - 1 : Nat) : Int) := by rw [wrap_i64 (by omega) (by omega)]; omega
    have b1 : i < n := by omega
    have b2 : j < n := by omega
    have a1 := flatA_at (f := halfA) (sz := 2) L hiL
    have a2 := flatA_at (f := halfA) (sz := 2) L hjL
    have hml := flatA_len (f := halfA) (sz := 2) L
    rw [List.length_flatMap, hL] at hml
    have q1 : ((halves' L).flatMap AV.cells).take (i * 2) ++ ((halfA L[j]).cells ++ ((halves' L).flatMap AV.cells).drop (i * 2 + 2)) = (halves' (L.set i L[j])).flatMap AV.cells := flatA_put (f := halfA) (sz := 2) L hiL (k := 0) (new := (halfA L[j]).cells) (a := L[j]) (by simp) (by simp)
    have q2 : ((halves' (L.set i L[j])).flatMap AV.cells).take (j * 2) ++ ((halfA L[i]).cells ++ ((halves' (L.set i L[j])).flatMap AV.cells).drop (j * 2 + 2)) = (halves' ((L.set i L[j]).set j L[i])).flatMap AV.cells := flatA_put (f := halfA) (sz := 2) (L.set i L[j]) (by simpa using hjL) (k := 0) (new := (halfA L[i]).cells) (a := L[i]) (by simp) (by simp)
    have m1 : min 2 (n * 2 - j * 2) = 2 := by omega
    have m2 : min 2 (n * 2 - i * 2) = 2 := by omega
    have m3 : min (i * 2) (n * 2) = i * 2 := by omega
    simp [h0, h2, h3, hlt, hrl, hiL, hjL, hL, b1, b2]
    simp only [hml, m1, m2, m3, a1, a2, q1, q2]
    refine ⟨by omega, by omega, trivial, by omega, trivial, by omega, i + 1, by omega, ew, (L.set i L[j]).set j L[i], j - 1, w1, by omega, by omega, by simp [hL], fun k hkn => ?_, rfl⟩
    have hki := hk k hkn
    have hki2 := hk i b1
    have hki3 := hk j b2
    rw [if_neg (by omega), List.getElem?_eq_getElem hiL] at hki2
    rw [if_neg (by omega), List.getElem?_eq_getElem hjL] at hki3
    rw [List.getElem?_set, List.getElem?_set]
    by_cases c1 : j = k
    · subst c1
      rw [if_pos rfl, if_pos (by simpa using hjL), if_pos (by omega), hki2]
      congr 1; omega
    · rw [if_neg c1]
      by_cases c2 : i = k
      · subst c2
        rw [if_pos rfl, if_pos hiL, if_pos (by omega), hki3]
        congr 1; omega
      · rw [if_neg c2, hki]
        by_cases c3 : k < i ∨ j < k
        · rw [if_pos c3, if_pos (by omega)]
        · rw [if_neg c3, if_neg (by omega)]
  · have hc : ¬ (i : Int) < j := by omega
    have : L = xs.reverse := by
      apply List.ext_getElem?
      intro k
      rcases Nat.lt_or_ge k n with hkn | hkn
      · rw [hk k hkn, List.getElem?_reverse (by omega), hn]
        split
        · rfl
        · have : n - 1 - k = k := by omega
          rw [this]
      · rw [List.getElem?_eq_none (by omega), List.getElem?_eq_none (by simp; omega)]
    subst this
    simp [h0, h2, h3, hlt]
/-- a row of halves that grows, behind four things -/
def GrowR (L : List HO) (c : AV) (l : List (Int × Int)) : Prop := (l = [] ∧ (c = .sl .nil [] ∨ c = .sl .exact [])) ∨ 0 < l.length ∧ ∃ t, c = .mv (t + 4) l.length 2 0 l.length ∧ L[t]? = some (.row l.length 2 ((halves' l).flatMap AV.cells))
def upL (ps : List Int) : List (Int × Int) := (belowL ps).map fun p => (p.2, p.1)
def UJ (ps : List Int) (k : Nat) (x : Obj) (H : List HO) : Prop := ∃ c L, H = .box [c] :: .box [.sl .no (ints' ps)] :: .raw (.deferred (some [])) :: .raw x :: L ∧ GrowR L c ((upL ps).take k)
theorem S_rdUp (ps : List Int) (hl : ps.length < 60) : TS Tryz.prog 27 [.sl .no (ints' ps)] [] (fun r H' => (upL ps = [] ∧ (r = .sl .nil [] ∨ r = .sl .exact [])) ∨ 0 < (upL ps).length ∧ ∃ t, r = .mv t (upL ps).length 2 0 (upL ps).length ∧ H'[t]? = some (.row (upL ps).length 2 ((halves' (upL ps).reverse).flatMap AV.cells))) := by
  have hbl := belowL_len ps
  have hul : (upL ps).length = (belowL ps).length := by unfold upL; rw [List.length_map]
  refine TS.ranged [15] Tryz.func27 (by kernel_rfl) rfl (by kernel_rfl) (by simp) (below_it ps hl 1) (enters_of Tryz.func105 (by kernel_rfl) rfl) (fun k hk => ?_) ?_
  · obtain ⟨h', e⟩ := half_get hk
    rw [e]; rfl
  simp
  refine TS.pt (S_below ps _) ?_
  simp
  refine ⟨rfl, by simp, UJ ps, fun x => ⟨_, [], rfl, .inl ⟨by simp, .inr rfl⟩⟩, ?_, ?_, ?_⟩
  · rintro k x H' ⟨c, L, rfl, hg⟩
    exact ⟨rfl, rfl, rfl, fun y => ⟨c, L, rfl, hg⟩⟩
  · rintro k x H' hk ⟨c, L, rfl, hg⟩
    obtain ⟨hk', e⟩ := half_get hk
    have hk2 : k < (belowL ps).length := hk'
    obtain ⟨p, hp⟩ : ∃ p, p = (belowL ps)[k]'hk' := ⟨_, rfl⟩
    have hp' : (belowP ps (downI (heldI ps)))[k]'hk' = p := hp.symm
    have hnx : (upL ps).take (k + 1) = (upL ps).take k ++ [(p.2, p.1)] := by
      rw [take_next (by omega)]
      congr 2
      rw [hp]
      simp [upL]
      exact ⟨rfl, rfl⟩
    have hml : ((upL ps).take k).length = k := by simp; omega
    rw [e, hp']
    rcases hg with ⟨ge, zx⟩ | ⟨_, t, rfl, ht⟩
    · have ex := GrowX.ex0 zx
      simp [setps, ex]
      refine fun y => ⟨_, _, rfl, .inr ⟨by rw [hnx]; simp, L.length, ?_, ?_⟩⟩
      · rw [hnx, ge]; rfl
      · rw [hnx, ge]; simp
    · rw [hml] at ht
      simp [setps, ht, hml]
      have hl1 : ((upL ps).take (k + 1)).length = k + 1 := by rw [hnx, List.length_append, hml]; rfl
      have htl := (List.getElem?_eq_some_iff.1 ht).1
      refine fun y => ⟨⟨by omega, by omega⟩, _, _, rfl, .inr ⟨by omega, t, ?_, ?_⟩⟩
      · rw [hl1]
      · rw [hl1, List.getElem?_set_self htl, hnx]
        simp [avs]
  · rintro x H' ⟨c, L, rfl, hg⟩
    rw [List.length_map] at hg
    have : (upL ps).take (belowP ps (downI (heldI ps))).length = upL ps := by
      have : (belowP ps (downI (heldI ps))).length = (upL ps).length := hul.symm
      rw [this, List.take_length]
    rw [this] at hg
    rcases hg with ⟨h0, hc⟩ | ⟨h0, t, rfl, ht⟩
    · have hcc : ∃ own, c = .sl own [] ∧ (c = .sl .nil [] ∨ c = .sl .exact []) := by rcases hc with rfl | rfl <;> exact ⟨_, rfl, by simp⟩
      obtain ⟨own, rfl, hcc⟩ := hcc
      simp
      refine TS.pt (S_revH0 _ own) ?_
      simp
      exact ⟨h0, by simpa using hcc⟩
    · have hrv := S_revH (.box [.mv (t + 4) (upL ps).length 2 0 (upL ps).length] :: .box [.sl .no (ints' ps)] :: .raw (.deferred (some [])) :: .raw x :: L) (t + 4) (upL ps).length (upL ps) rfl (by simpa using ht) (by omega) (by omega)
      simp
      refine TS.pt hrv ?_
      simp
      rw [List.getElem?_set_self (List.getElem?_eq_some_iff.1 ht).1]
      exact ⟨h0, rfl⟩
theorem T_rdUp (ps : List Int) (hl : ps.length < 60) : T Tryz.prog 27 [.sl .no (ints' ps)] (.sl .no (halves' (upL ps).reverse)) := by
  refine T.introF ((S_rdUp ps hl).mono ?_)
  rintro r H' (⟨h0, hr⟩ | ⟨h0, t, rfl, ht⟩)
  · rw [h0]
    rcases hr with rfl | rfl
    · exact Frz.slN (f := halfA) (l := [])
    · exact Frz.slN (f := halfA) (l := [])
  · exact Frz.mvA (f := halfA) (sz := 2) ht (by simp)
def progL (ps : List Int) : List (Int × Int) := (upL ps).reverse ++ belowL ps
theorem T_rdProgram (ps : List Int) (hl : ps.length < 60) : T Tryz.prog 29 [.sl .no (ints' ps)] (.sl .no (halves' (progL ps))) := by
  have hbl := belowL_len ps
  have hul : (upL ps).length = (belowL ps).length := by unfold upL; rw [List.length_map]
  have k2 := T_rdDown ps hl
  refine T.introF (TS.body mix Tryz.func29 (by kernel_rfl) rfl (by kernel_rfl) (by simp) ?_)
  simp
  refine (S_rdUp ps hl).mono ?_
  rintro r H' (⟨h0, hr⟩ | ⟨h0, t, rfl, ht⟩)
  · have hb0 : belowL ps = [] := List.eq_nil_of_length_eq_zero (by rw [← hul, h0]; rfl)
    have hp0 : progL ps = [] := by unfold progL; rw [h0, hb0]; rfl
    rw [hb0] at k2
    rw [hp0]
    rcases hr with rfl | rfl
    · simp
      refine TS.callW k2 (Dws.self (by simp)) ?_
      simp
      exact Frz.slN (f := halfA) (l := [])
    · simp
      refine TS.callW k2 (Dws.self (by simp)) ?_
      simp
      exact Frz.slN (f := halfA) (l := [])
  · simp
    refine TS.callW k2 (Dws.self (by simp)) ?_
    have htl := (List.getElem?_eq_some_iff.1 ht).1
    have hpl : (progL ps).length = (upL ps).length + (belowL ps).length := by unfold progL; simp
    simp [ht]
    refine ⟨⟨by omega, by omega⟩, ?_⟩
    rw [← hpl]
    refine Frz.mvA (f := halfA) (sz := 2) ?_ (by simp)
    rw [List.getElem?_set_self htl]
    simp [progL, avs]
theorem prog_live : progL [-1, 0, 1] = [(1, 2), (0, 1), (1, 0), (2, 1)] := by
  have hh : heldI [-1, 0, 1] = [-1, 0, 1] := by decide +kernel
  have hd : downI [-1, 0, 1] = [0, 1, 2] := DownOf.uniq (downI_of _) ⟨by decide +kernel, by unfold dleP; decide +kernel⟩
  unfold progL upL belowL
  rw [hh, hd]
  decide +kernel
theorem T_live25 : T Tryz.prog 24 [] (.bool true) := by
  have k1 := T_rdProgram [-1, 0, 1] (by decide)
  rw [prog_live] at k1
  refine T.intro (TS.body mix Tryz.func24 (by kernel_rfl) rfl (by kernel_rfl) (by simp) ?_)
  simp
  refine TS.callW k1 (.cons (.sl (Dws.self (by simp))) .nil) ?_
  simp
def swpP (p : Int × Int) : Int × Int := (p.2, p.1)
theorem below_rev (ps Z : List Int) : belowP ps Z.reverse = (belowP ps Z).reverse := by unfold belowP; rw [List.filter_reverse, List.map_reverse]
theorem up_rev (ps : List Int) : (belowP ps (downI (heldI ps)).reverse).map swpP = (upL ps).reverse := by
  rw [below_rev, List.map_reverse]; rfl
theorem parOf_nat {ps : List Int} {m : Nat} (h : m < ps.length) : parOf ps (m : Int) = ps[m] := by
  unfold parOf
  rw [Int.toNat_natCast, List.getD_eq_getElem?_getD, List.getElem?_eq_getElem h]
  rfl
theorem S_rprogUp (ps : List Int) (hl : ps.length < 60) : TS Tryz.prog 25 [.sl .no (ints' ps), .bool true] [] (fun r H' => GrowX 0 2 H' r (halves' (upL ps).reverse)) := by
  have kd := T_rdown ps (by omega)
  rw [← up_rev]
  obtain ⟨Z, hZ⟩ : ∃ Z, Z = downI (heldI ps) := ⟨_, rfl⟩
  have hin : ∀ k (h : k < Z.length), ∃ m : Nat, Z[k] = m ∧ m < ps.length := fun k h => by
    have := List.getElem_mem h
    subst hZ
    exact (down_in this).2
  have hZn : Z.length < 60 := by
    have h1 := heldI_len ps
    rw [hZ, downI_len]
    omega
  rw [← hZ] at kd ⊢
  refine TS.body mix Tryz.func25 (by kernel_rfl) rfl (by kernel_rfl) (by simp) ?_
  simp
  refine TS.callW kd (Dws.self (by simp)) ?_
  simp
  refine vc_loop (fun i : Nat => Z.length - i) (fun i e H => e 0 = .sl .no (ints' ps) ∧ e 1 = .bool true ∧ e 5 = .sl .no (ints' Z) ∧ e 7 = .int .i64 i ∧ i ≤ Z.length ∧ GrowX 0 2 H (e 6) (halves' ((belowP ps (Z.reverse.take i)).map swpP))) 0 ?_ ?_
  · simp [belowP]
    exact .inl ⟨rfl, .inl rfl⟩
  rintro i e H ⟨e0, e1, e5, e7, hi, hg⟩
  by_cases hlt : i < Z.length
  · have ew := wrap_next hlt (by omega)
    obtain ⟨j, hj⟩ : ∃ j, j = Z.length - 1 - i := ⟨_, rfl⟩
    have hjl : j < Z.length := by omega
    have ew2 : IntKind.i64.wrap ((Z.length : Int) - 1) = (Z.length : Int) - 1 := wrap_i64 (by omega) (by omega)
    have ew3 : IntKind.i64.wrap ((Z.length : Int) - 1 - (i : Int)) = (j : Int) := by rw [wrap_i64 (by omega) (by omega)]; omega
    obtain ⟨m, hm1, hm2⟩ := hin j hjl
    have hrg : Z.reverse[i]'(by simpa using hlt) = Z[j] := by rw [List.getElem_reverse]; congr 1; omega
    have hnx := below_next (ps := ps) (Z := Z.reverse) (k := i) (by simpa using hlt)
    rw [hrg, hm1, parOf_nat hm2] at hnx
    have hbl : ((belowP ps (Z.reverse.take i)).map swpP).length ≤ i := by
      rw [List.length_map]
      unfold belowP
      rw [List.length_map]
      exact Nat.le_trans (List.length_filter_le ..) (by simp; omega)
    simp [e0, e1, e5, e7, hlt, ew2, ew3, hjl, hm1, hm2]
    by_cases hp : ps[m] < 0
    · rw [if_neg (by omega), List.append_nil] at hnx
      simp [e0, e1, e5, e7, hp]
      exact ⟨i + 1, by omega, ew, by omega, by rw [hnx]; exact hg⟩
    · rw [if_pos (by omega)] at hnx
      have hmx : (belowP ps (Z.reverse.take (i + 1))).map swpP = (belowP ps (Z.reverse.take i)).map swpP ++ [(ps[m], (m : Int))] := by rw [hnx, List.map_append]; rfl
      rcases hg with ⟨ge, zx⟩ | ⟨t, gx, ht⟩
      · rw [avs_eq_nil] at ge
        have ex := GrowX.ex0 zx
        simp [e0, e1, e5, e7, hp, ex]
        refine ⟨i + 1, by omega, ew, by omega, ?_⟩
        rw [hmx]
        exact GrowX.first (f := halfA) ge rfl
      · have hw := ht
        simp only [avs_length] at hw
        rw [Nat.add_zero] at gx
        simp [e0, e1, e5, e7, hp, gx, hw]
        refine ⟨by simp at hbl; omega, i + 1, by omega, ew, by omega, ?_⟩
        rw [hmx]
        exact .inr ⟨t, by simp [avs], by rw [List.getElem?_set_self (List.getElem?_eq_some_iff.1 ht).1]; simp⟩
  · have : i = Z.length := by omega
    subst this
    rw [← List.length_reverse, List.take_length] at hg
    simp [e0, e1, e5, e7, hlt]
    exact hg
theorem T_rprogDn (ps : List Int) (hl : ps.length < 60) : T Tryz.prog 25 [.sl .no (ints' ps), .bool false] (.sl .no (halves' (belowL ps))) := by
  have kd := T_rdown ps (by omega)
  unfold belowL
  obtain ⟨Z, hZ⟩ : ∃ Z, Z = downI (heldI ps) := ⟨_, rfl⟩
  have hin : ∀ k (h : k < Z.length), ∃ m : Nat, Z[k] = m ∧ m < ps.length := fun k h => by
    have := List.getElem_mem h
    subst hZ
    exact (down_in this).2
  have hZn : Z.length < 60 := by
    have h1 := heldI_len ps
    rw [hZ, downI_len]
    omega
  rw [← hZ] at kd ⊢
  refine T.introF (TS.body mix Tryz.func25 (by kernel_rfl) rfl (by kernel_rfl) (by simp) ?_)
  simp
  refine TS.callW kd (Dws.self (by simp)) ?_
  simp
  refine vc_loop (fun i : Nat => Z.length - i) (fun i e H => e 0 = .sl .no (ints' ps) ∧ e 1 = .bool false ∧ e 5 = .sl .no (ints' Z) ∧ e 7 = .int .i64 i ∧ i ≤ Z.length ∧ GrowX 0 2 H (e 6) (halves' (belowP ps (Z.take i)))) 0 ?_ ?_
  · simp [belowP]
    exact .inl ⟨rfl, .inl rfl⟩
  rintro i e H ⟨e0, e1, e5, e7, hi, hg⟩
  by_cases hlt : i < Z.length
  · have ew := wrap_next hlt (by omega)
    obtain ⟨m, hm1, hm2⟩ := hin i hlt
    have hnx := below_next (ps := ps) (Z := Z) (k := i) hlt
    rw [hm1, parOf_nat hm2] at hnx
    have hbl : (belowP ps (Z.take i)).length ≤ i := by
      unfold belowP
      rw [List.length_map]
      exact Nat.le_trans (List.length_filter_le ..) (by simp; omega)
    simp [e0, e1, e5, e7, hlt, hm1, hm2]
    by_cases hp : ps[m] < 0
    · rw [if_neg (by omega), List.append_nil] at hnx
      simp [e0, e1, e5, e7, hp]
      exact ⟨i + 1, by omega, ew, by omega, by rw [hnx]; exact hg⟩
    · rw [if_pos (by omega)] at hnx
      rcases hg with ⟨ge, zx⟩ | ⟨t, gx, ht⟩
      · rw [avs_eq_nil] at ge
        have ex := GrowX.ex0 zx
        simp [e0, e1, e5, e7, hp, ex]
        refine ⟨i + 1, by omega, ew, by omega, ?_⟩
        rw [hnx]
        exact GrowX.first (f := halfA) ge rfl
      · have hw := ht
        simp only [avs_length] at hw
        rw [Nat.add_zero] at gx
        simp [e0, e1, e5, e7, hp, gx, hw]
        refine ⟨by omega, i + 1, by omega, ew, by omega, ?_⟩
        rw [hnx]
        exact .inr ⟨t, by simp [avs], by rw [List.getElem?_set_self (List.getElem?_eq_some_iff.1 ht).1]; simp⟩
  · have : i = Z.length := by omega
    subst this
    rw [List.take_length] at hg
    obtain ⟨own, gx⟩ := hg.own
    simp [e0, e1, e5, e7, hlt, gx]
    exact Frz.slN (f := halfA)
theorem T_sameHalves (l : List (Int × Int)) (hl : l.length ≤ 1000000) : T Tryz.prog 26 [.sl .no (halves' l), .sl .no (halves' l)] (.bool true) := by
  refine T.intro (TS.body mix Tryz.func26 (by kernel_rfl) rfl (by kernel_rfl) (by simp) ?_)
  simp
  refine vc_loop (fun i : Nat => l.length - i) (fun i e H => e 0 = .sl .no (halves' l) ∧ e 1 = .sl .no (halves' l) ∧ e 5 = .int .i64 i ∧ i ≤ l.length) 0 ?_ ?_
  · simp
  rintro i e H ⟨e0, e1, e5, hi⟩
  by_cases hlt : i < l.length
  · have ew := wrap_next hlt (by omega)
    simp [e0, e1, e5, hlt]
    exact ⟨i + 1, by omega, ew, by omega⟩
  · have : i = l.length := by omega
    subst this
    simp [e0, e1, e5]
end Go.Proofs.YtjplcdeaedflpaaGreatDoor.PL
namespace Go.Proofs.YtjplcdeaedflpaaGreatDoor.PL
open Go.Proofs
set_option linter.unusedVariables false
set_option linter.unusedSimpArgs false
def GrowC (sz : Nat) (H : List HO) (x : AV) (xs : List AV) : Prop := (xs = [] ∧ (x = .sl .nil [] ∨ x = .sl .exact [])) ∨ ∃ t, x = .sl (.tok t) xs ∧ H[t]? = some (.spare xs.length sz)
theorem GrowC.own {sz : Nat} {H : List HO} {x : AV} {xs : List AV} (h : GrowC sz H x xs) : ∃ own, x = .sl own xs := by
  rcases h with ⟨rfl, h | h⟩ | ⟨t, h, _⟩
  · exact ⟨_, h⟩
  · exact ⟨_, h⟩
  · exact ⟨_, h⟩
end Go.Proofs.YtjplcdeaedflpaaGreatDoor.PL
namespace Go.Proofs.YtjplcdeaedflpaaGreatDoor.PL
open Go.Proofs
set_option linter.unusedVariables false
set_option linter.unusedSimpArgs false
def colsJ (a b : Rel) : List Int := setI (a.cols ++ b.cols)
def cellJ (a b : Rel) (x y : List Val) (c : Int) : Val := if c ∈ a.cols then pickF x (idxF a.cols c) else pickF y (idxF b.cols c)
def rowJ (a b : Rel) (x y : List Val) : List Val := (colsJ a b).map (cellJ a b x y)
def rowsJ (a b : Rel) (x : List Val) : List (List Val) := (b.rows.filter fun y => meetB a b x y).map (rowJ a b x)
def joinR (a b : Rel) : Rel := ⟨colsJ a b, a.rows.flatMap (rowsJ a b)⟩
abbrev orows (R : List (Own × List Val)) : List AV := avs (oslA Val.av) R
/-- the memory while rows are put together -/
structure JM (a b : Rel) (cs U : List Int) (p6 p7 : Nat) (L : PlL) (R : List (Own × List Val)) (M : List HO) : Prop where
  hp : 6 ≤ p6 ∧ p7 = p6 + 1
  g0 : M[0]? = some (.box a.cs)
  g1 : M[1]? = some (.box b.cs)
  g2 : ∃ c2 : List AV, c2.length = 2 ∧ M[2]? = some (.box c2)
  gm : M[5]? = some (.mp (plA L) (some 0))
  g6 : M[p6]? = some (.box (idxA b cs 5))
  g7 : ∃ x, M[p7]? = some (.box [.sl .no (ints' U), x]) ∧ ((R = [] ∧ (x = .sl .nil [] ∨ x = .sl .exact [])) ∨ ∃ t, x = .sl (.tok t) (orows R) ∧ M[t]? = some (.spare R.length 1))
namespace JM
variable {a b : Rel} {cs U : List Int} {p6 p7 : Nat} {L : PlL} {R : List (Own × List Val)} {M : List HO}
theorem app (h : JM a b cs U p6 p7 L R M) (J : List HO) : JM a b cs U p6 p7 L R (M ++ J) := by
  have e : ∀ {i : Nat} {o : HO}, M[i]? = some o → (M ++ J)[i]? = some o := fun {i o} hi => by rw [List.getElem?_append_left (List.getElem?_eq_some_iff.1 hi).1]; exact hi
  obtain ⟨c2, h2, g2⟩ := h.g2
  obtain ⟨x, g7, hx⟩ := h.g7
  refine ⟨h.hp, e h.g0, e h.g1, ⟨c2, h2, e g2⟩, e h.gm, e h.g6, x, e g7, ?_⟩
  rcases hx with hx | ⟨t, hx, ht⟩
  · exact .inl hx
  · exact .inr ⟨t, hx, e ht⟩
theorem first (h : JM a b cs U p6 p7 L [] M) {r : List Val} {own : Own} {k : Nat} (hk : k = M.length) : JM a b cs U p6 p7 L [(own, r)] ((M ++ [HO.spare 1 1]).set p7 (.box [.sl .no (ints' U), .sl (.tok k) [.sl own (vals' r)]])) := by
  subst hk
  have h1 := h.app [HO.spare 1 1]
  obtain ⟨hp1, hp2⟩ := h.hp
  have hl : p7 < M.length := by obtain ⟨x, g7, _⟩ := h.g7; exact (List.getElem?_eq_some_iff.1 g7).1
  have e : ∀ {i : Nat} (z : HO), i ≠ p7 → ((M ++ [HO.spare 1 1]).set p7 z)[i]? = (M ++ [HO.spare 1 1])[i]? := fun {i} z hi => List.getElem?_set_ne (Ne.symm hi)
  refine ⟨h.hp, ?_, ?_, ?_, ?_, ?_, _, List.getElem?_set_self (by simp; omega), .inr ⟨M.length, by simp [avs], ?_⟩⟩
  · rw [e _ (by omega)]; exact h1.g0
  · rw [e _ (by omega)]; exact h1.g1
  · rw [e _ (by omega)]; exact h1.g2
  · rw [e _ (by omega)]; exact h1.gm
  · rw [e _ (by omega)]; exact h1.g6
  · rw [e _ (by omega)]; simp
theorem more (h : JM a b cs U p6 p7 L R M) {x : AV} {t n : Nat} (g7 : M[p7]? = some (.box [.sl .no (ints' U), x])) (ht : M[t]? = some (.spare R.length 1)) {r : List Val} {own : Own} (hn : n = R.length + 1) : JM a b cs U p6 p7 L (R ++ [(own, r)]) ((M.set t (.spare n 1)).set p7 (.box [.sl .no (ints' U), .sl (.tok t) (orows R ++ [.sl own (vals' r)])])) := by
  subst hn
  obtain ⟨hp1, hp2⟩ := h.hp
  have hl := (List.getElem?_eq_some_iff.1 g7).1
  have htl := (List.getElem?_eq_some_iff.1 ht).1
  have ht7 : p7 ≠ t := by rintro rfl; rw [g7] at ht; cases ht
  have e : ∀ {i : Nat} {o : HO} (z : HO), M[i]? = some o → i ≠ p7 → (∀ n, o ≠ .spare n 1) → ((M.set t (.spare (R.length + 1) 1)).set p7 z)[i]? = some o := fun {i o} z hi h7 ho => by
    have : i ≠ t := by rintro rfl; rw [ht] at hi; exact ho _ (Option.some.inj hi).symm
    rw [List.getElem?_set_ne (Ne.symm h7), List.getElem?_set_ne (Ne.symm this)]
    exact hi
  obtain ⟨c2, h2, g2⟩ := h.g2
  refine ⟨h.hp, e _ h.g0 (by omega) (by simp), e _ h.g1 (by omega) (by simp), ⟨c2, h2, e _ g2 (by omega) (by simp)⟩, e _ h.gm (by omega) (by simp), e _ h.g6 (by omega) (by simp), _, List.getElem?_set_self (by simp; omega), .inr ⟨t, by simp [avs, oslA], ?_⟩⟩
  rw [List.getElem?_set_ne ht7, List.getElem?_set_self htl]
  simp
end JM
end Go.Proofs.YtjplcdeaedflpaaGreatDoor.PL
namespace Go.Proofs.YtjplcdeaedflpaaGreatDoor.PL
open Go.Proofs
set_option linter.unusedVariables false
set_option linter.unusedSimpArgs false
/-- the memory while rows are put together -/
structure JR (a b : Rel) (U : List Int) (R : List (Own × List Val)) (M : List HO) : Prop where
  g0 : M[3]? = some (.box a.cs)
  g1 : M[4]? = some (.box b.cs)
  g2 : ∃ c2 : List AV, c2.length = 2 ∧ M[2]? = some (.box c2)
  g7 : ∃ x, M[7]? = some (.box [.sl .no (ints' U), x]) ∧ ((R = [] ∧ (x = .sl .nil [] ∨ x = .sl .exact [])) ∨ ∃ t, x = .sl (.tok t) (orows R) ∧ M[t]? = some (.spare R.length 1))
namespace JR
variable {a b : Rel} {U : List Int} {R : List (Own × List Val)} {M : List HO}
theorem app (h : JR a b U R M) (J : List HO) : JR a b U R (M ++ J) := by
  have e : ∀ {i : Nat} {o : HO}, M[i]? = some o → (M ++ J)[i]? = some o := fun {i o} hi => by rw [List.getElem?_append_left (List.getElem?_eq_some_iff.1 hi).1]; exact hi
  obtain ⟨c2, h2, g2⟩ := h.g2
  obtain ⟨x, g7, hx⟩ := h.g7
  refine ⟨e h.g0, e h.g1, ⟨c2, h2, e g2⟩, x, e g7, ?_⟩
  rcases hx with hx | ⟨t, hx, ht⟩
  · exact .inl hx
  · exact .inr ⟨t, hx, e ht⟩
theorem first (h : JR a b U [] M) {r : List Val} {own : Own} {k : Nat} (hk : k = M.length) : JR a b U [(own, r)] ((M ++ [HO.spare 1 1]).set 7 (.box [.sl .no (ints' U), .sl (.tok k) [.sl own (vals' r)]])) := by
  subst hk
  have h1 := h.app [HO.spare 1 1]
  have hl : 7 < M.length := by obtain ⟨x, g7, _⟩ := h.g7; exact (List.getElem?_eq_some_iff.1 g7).1
  have e : ∀ {i : Nat} (z : HO), i ≠ 7 → ((M ++ [HO.spare 1 1]).set 7 z)[i]? = (M ++ [HO.spare 1 1])[i]? := fun {i} z hi => List.getElem?_set_ne (Ne.symm hi)
  refine ⟨?_, ?_, ?_, _, List.getElem?_set_self (by simp; omega), .inr ⟨M.length, by simp [avs], ?_⟩⟩
  · rw [e _ (by omega)]; exact h1.g0
  · rw [e _ (by omega)]; exact h1.g1
  · rw [e _ (by omega)]; exact h1.g2
  · rw [e _ (by omega)]; simp
theorem more (h : JR a b U R M) {x : AV} {t n : Nat} (g7 : M[7]? = some (.box [.sl .no (ints' U), x])) (ht : M[t]? = some (.spare R.length 1)) {r : List Val} {own : Own} (hn : n = R.length + 1) : JR a b U (R ++ [(own, r)]) ((M.set t (.spare n 1)).set 7 (.box [.sl .no (ints' U), .sl (.tok t) (orows R ++ [.sl own (vals' r)])])) := by
  subst hn
  have hl := (List.getElem?_eq_some_iff.1 g7).1
  have htl := (List.getElem?_eq_some_iff.1 ht).1
  have ht7 : 7 ≠ t := by rintro rfl; rw [g7] at ht; cases ht
  have e : ∀ {i : Nat} {o : HO} (z : HO), M[i]? = some o → i ≠ 7 → (∀ n, o ≠ .spare n 1) → ((M.set t (.spare (R.length + 1) 1)).set 7 z)[i]? = some o := fun {i o} z hi h7 ho => by
    have : i ≠ t := by rintro rfl; rw [ht] at hi; exact ho _ (Option.some.inj hi).symm
    rw [List.getElem?_set_ne (Ne.symm h7), List.getElem?_set_ne (Ne.symm this)]
    exact hi
  obtain ⟨c2, h2, g2⟩ := h.g2
  refine ⟨e _ h.g0 (by omega) (by simp), e _ h.g1 (by omega) (by simp), ⟨c2, h2, e _ g2 (by omega) (by simp)⟩, _, List.getElem?_set_self (by simp; omega), .inr ⟨t, by simp [avs, oslA], ?_⟩⟩
  rw [List.getElem?_set_ne ht7, List.getElem?_set_self htl]
  simp
end JR
end Go.Proofs.YtjplcdeaedflpaaGreatDoor.PL
namespace Go.Proofs.YtjplcdeaedflpaaGreatDoor.PL
open Go.Proofs
set_option linter.unusedVariables false
set_option linter.unusedSimpArgs false
/-- a row, with its columns -/
abbrev Ent := List Int × List Val
def getE (e : Ent) (c : Int) : Val := pickF e.2 (idxF e.1 c)
def Agree (e f : Ent) : Prop := ∀ c, c ∈ e.1 → c ∈ f.1 → getE e c = getE f c ∧ okV (getE e c) = true
def agreeB (e f : Ent) : Bool := matchV (valsF e.1 e.2 (sharedI e.1 f.1)) (valsF f.1 f.2 (sharedI e.1 f.1))
theorem sharedI_mem' {a b : List Int} {c : Int} : c ∈ sharedI a b ↔ c ∈ a ∧ c ∈ b := by
  unfold sharedI
  rw [List.mem_filter, setI_mem]
  simp
theorem agreeB_iff {e f : Ent} : agreeB e f = true ↔ Agree e f := by
  unfold agreeB matchV valsF Agree
  rw [Bool.and_eq_true, decide_eq_true_iff, List.map_inj_left, List.all_eq_true]
  constructor
  · rintro ⟨h1, h2⟩ c hc hd
    have hm := sharedI_mem'.2 ⟨hc, hd⟩
    exact ⟨h1 c hm, h2 _ (List.mem_map.2 ⟨c, hm, rfl⟩)⟩
  · intro h
    refine ⟨fun c hc => (h c (sharedI_mem'.1 hc).1 (sharedI_mem'.1 hc).2).1, fun v hv => ?_⟩
    obtain ⟨c, hc, rfl⟩ := List.mem_map.1 hv
    exact (h c (sharedI_mem'.1 hc).1 (sharedI_mem'.1 hc).2).2
theorem meetB_agree {a b : Rel} {x y : List Val} : meetB a b x y = agreeB (a.cols, x) (b.cols, y) := rfl
theorem meetB_iff {a b : Rel} {x y : List Val} : meetB a b x y = true ↔ Agree (a.cols, x) (b.cols, y) := by rw [meetB_agree, agreeB_iff]
theorem Agree.symm {e f : Ent} (h : Agree e f) : Agree f e := fun c h1 h2 => by
  obtain ⟨h3, h4⟩ := h c h2 h1
  exact ⟨h3.symm, by rw [← h3]; exact h4⟩
def consB : List Ent → Bool
  | [] => true
  | e :: t => t.all (agreeB e) && consB t
theorem consB_iff : ∀ {t : List Ent}, consB t = true ↔ t.Pairwise Agree
  | [] => by simp [consB]
  | e :: t => by
    unfold consB
    rw [Bool.and_eq_true, List.all_eq_true, List.pairwise_cons, consB_iff]
    simp only [agreeB_iff]
def valT (t : List Ent) (c : Int) : Val := match t.find? (fun e => decide (c ∈ e.1)) with | some e => getE e c | none => zV4
def rowT (C : List Int) (t : List Ent) : Option (List Val) := if consB t = true then some (C.map (valT t)) else none
def tupsR : List Rel → List (List Ent)
  | [] => [[]]
  | r :: l => r.rows.flatMap fun x => (tupsR l).map fun t => (r.cols, x) :: t
def colsL (l : List Rel) : List Int := setI (l.flatMap Rel.cols)
def allJ (l : List Rel) : Rel := l.foldl joinR ⟨[], [[]]⟩
theorem pairs_same {t : List Ent} (h : t.Pairwise Agree) {e f : Ent} (he : e ∈ t) (hf : f ∈ t) {c : Int} (hc : c ∈ e.1) (hd : c ∈ f.1) : getE e c = getE f c := by
  induction t with
  | nil => cases he
  | cons a t ih =>
    rw [List.pairwise_cons] at h
    rcases List.mem_cons.1 he with he1 | he1 <;> rcases List.mem_cons.1 hf with hf1 | hf1
    · rw [he1, hf1]
    · subst he1; exact (h.1 f hf1 c hc hd).1
    · subst hf1; exact (h.1 e he1 c hd hc).1.symm
    · exact ih h.2 he1 hf1
theorem valT_mem {t : List Ent} (h : t.Pairwise Agree) {e : Ent} (he : e ∈ t) {c : Int} (hc : c ∈ e.1) : valT t c = getE e c := by
  unfold valT
  cases hf : t.find? (fun e => decide (c ∈ e.1)) with
  | none =>
    rw [List.find?_eq_none] at hf
    exact absurd (hf e he) (by simpa using hc)
  | some g =>
    have h1 := List.mem_of_find?_eq_some hf
    have h2 := List.find?_some hf
    exact pairs_same h h1 he (by simpa using h2) hc
theorem valT_app {t s : List Ent} {c : Int} (h : ∃ e, e ∈ t ∧ c ∈ e.1) : valT (t ++ s) c = valT t c := by
  unfold valT
  rw [List.find?_append]
  cases hf : t.find? (fun e => decide (c ∈ e.1)) with
  | none =>
    rw [List.find?_eq_none] at hf
    obtain ⟨e, he, hc⟩ := h
    exact absurd (hf e he) (by simpa using hc)
  | some g => rfl
theorem valT_app2 {t s : List Ent} {c : Int} (h : ∀ e, e ∈ t → c ∉ e.1) : valT (t ++ s) c = valT s c := by
  unfold valT
  rw [List.find?_append, List.find?_eq_none.2 fun e he => by simpa using h e he]
  rfl
theorem get_map {C : List Int} {g : Int → Val} {c : Int} (h : c ∈ C) : pickF (C.map g) (idxF C c) = g c := by
  obtain ⟨i, hi, h1, h2⟩ := idxF_at h
  rw [h2, pickF_in (by simpa using hi)]
  simp [h1]
theorem tups_snoc (l : List Rel) (r : Rel) : tupsR (l ++ [r]) = (tupsR l).flatMap fun t => r.rows.map fun x => t ++ [(r.cols, x)] := by
  induction l with
  | nil => simp [tupsR, List.flatMap_def, List.map_map, Function.comp_def]; induction r.rows <;> simp_all
  | cons a l ih =>
    rw [List.cons_append]
    unfold tupsR
    rw [ih, List.flatMap_assoc]
    congr 1
    funext x
    rw [List.flatMap_map, List.map_flatMap]
    simp [List.map_map, Function.comp_def]
theorem tups_mem {t : List Ent} : ∀ {l : List Rel}, t ∈ tupsR l ↔ t.length = l.length ∧ ∀ i (h : i < t.length) (h' : i < l.length), t[i].1 = l[i].cols ∧ t[i].2 ∈ l[i].rows := by
  induction t with
  | nil =>
    intro l
    cases l with
    | nil => simp [tupsR]
    | cons r l =>
      simp [tupsR]
  | cons e t ih =>
    intro l
    cases l with
    | nil => simp [tupsR]
    | cons r l =>
      unfold tupsR
      rw [List.mem_flatMap]
      constructor
      · rintro ⟨x, hx, ht⟩
        rw [List.mem_map] at ht
        obtain ⟨t', ht', he⟩ := ht
        cases he
        obtain ⟨h1, h2⟩ := ih.1 ht'
        refine ⟨by simp [h1], fun i hi hi' => ?_⟩
        cases i with
        | zero => exact ⟨rfl, hx⟩
        | succ i => simpa using h2 i (by simpa using hi) (by simpa using hi')
      · rintro ⟨h1, h2⟩
        have h0 := h2 0 (by simp) (by simp)
        refine ⟨e.2, h0.2, List.mem_map.2 ⟨t, ih.2 ⟨by simpa using h1, fun i hi hi' => ?_⟩, ?_⟩⟩
        · have := h2 (i + 1) (by simpa using hi) (by simpa using hi')
          rwa [List.getElem_cons_succ, List.getElem_cons_succ] at this
        · rw [show r.cols = e.1 from h0.1.symm]
theorem tups_cols {t : List Ent} {l : List Rel} (h : t ∈ tupsR l) {c : Int} : c ∈ colsL l ↔ ∃ e, e ∈ t ∧ c ∈ e.1 := by
  obtain ⟨h1, h2⟩ := tups_mem.1 h
  unfold colsL
  rw [setI_mem, List.mem_flatMap]
  constructor
  · rintro ⟨r, hr, hc⟩
    obtain ⟨i, hi, rfl⟩ := List.getElem_of_mem hr
    exact ⟨t[i], List.getElem_mem _, by rw [(h2 i (by omega) hi).1]; exact hc⟩
  · rintro ⟨e, he, hc⟩
    obtain ⟨i, hi, rfl⟩ := List.getElem_of_mem he
    exact ⟨l[i], List.getElem_mem _, by rw [← (h2 i hi (by omega)).1]; exact hc⟩
theorem filt_map {α β : Type} (p : α → Bool) (f : α → β) (l : List α) : (l.filter p).map f = l.filterMap fun x => if p x = true then some (f x) else none := by
  induction l with
  | nil => rfl
  | cons a l ih =>
    cases h : p a <;> simp [h, ih]
theorem consB_snoc {t : List Ent} {e : Ent} : consB (t ++ [e]) = true ↔ consB t = true ∧ ∀ f, f ∈ t → Agree f e := by
  rw [consB_iff, consB_iff, List.pairwise_append]
  simp
theorem step_one {l : List Rel} {r : Rel} {R : List (List Val)} {t : List Ent} (ht : t ∈ tupsR l) : (match rowT (colsL l) t with | some row => rowsJ ⟨colsL l, R⟩ r row | none => []) = (r.rows.map fun x => t ++ [(r.cols, x)]).filterMap (rowT (setI (colsL l ++ r.cols))) := by
  rw [List.filterMap_map]
  have hcol := @tups_cols t l ht
  cases hc : consB t with
  | false =>
    have : rowT (colsL l) t = none := by unfold rowT; rw [hc]; rfl
    rw [this]
    symm
    show _ = []
    rw [List.filterMap_eq_nil_iff]
    intro x _
    show rowT _ (t ++ [(r.cols, x)]) = none
    unfold rowT
    rw [if_neg]
    rw [consB_snoc, hc]
    simp
  | true =>
    have : rowT (colsL l) t = some ((colsL l).map (valT t)) := by unfold rowT; rw [hc]; rfl
    rw [this]
    show rowsJ _ _ _ = _
    unfold rowsJ
    rw [filt_map]
    congr 1
    funext x
    show _ = rowT _ (t ++ [(r.cols, x)])
    have hp := consB_iff.1 hc
    have hget : ∀ c, c ∈ colsL l → getE (colsL l, (colsL l).map (valT t)) c = valT t c := fun c hc => get_map hc
    have hiff : meetB ⟨colsL l, R⟩ r ((colsL l).map (valT t)) x = true ↔ ∀ f, f ∈ t → Agree f (r.cols, x) := by
      rw [meetB_iff]
      constructor
      · intro h f hf c h1 h2
        have hcl := hcol.2 ⟨f, hf, h1⟩
        have := h c hcl h2
        rw [hget c hcl, valT_mem hp hf h1] at this
        exact this
      · intro h c h1 h2
        obtain ⟨f, hf, h3⟩ := hcol.1 h1
        rw [hget c h1, valT_mem hp hf h3]
        exact h f hf c h3 h2
    unfold rowT
    by_cases hm : meetB ⟨colsL l, R⟩ r ((colsL l).map (valT t)) x = true
    · rw [if_pos hm, if_pos (consB_snoc.2 ⟨hc, hiff.1 hm⟩)]
      congr 1
      unfold rowJ colsJ
      apply List.map_congr_left
      intro c hcm
      rw [setI_mem, List.mem_append] at hcm
      unfold cellJ
      by_cases hcl : c ∈ colsL l
      · rw [if_pos hcl, valT_app (hcol.1 hcl)]
        exact hget c hcl
      · rw [if_neg hcl, valT_app2 fun e he h => hcl (hcol.2 ⟨e, he, h⟩)]
        have hr : c ∈ r.cols := hcm.resolve_left hcl
        exact (valT_mem (t := [(r.cols, x)]) (List.pairwise_singleton _ _) List.mem_cons_self hr).symm
    · rw [if_neg hm, if_neg fun h => hm (hiff.2 (consB_snoc.1 h).2)]
theorem step_all {l : List Rel} {r : Rel} {R : List (List Val)} : ∀ T : List (List Ent), (∀ t, t ∈ T → t ∈ tupsR l) → (T.filterMap (rowT (colsL l))).flatMap (rowsJ ⟨colsL l, R⟩ r) = (T.flatMap fun t => r.rows.map fun x => t ++ [(r.cols, x)]).filterMap (rowT (setI (colsL l ++ r.cols)))
  | [], _ => rfl
  | t :: T, h => by
    have h1 := step_one (r := r) (R := R) (h t List.mem_cons_self)
    have h2 := step_all (l := l) (r := r) (R := R) T fun t ht => h t (List.mem_cons_of_mem _ ht)
    rw [List.flatMap_cons, List.filterMap_append, ← h2, ← h1, List.filterMap_cons]
    cases rowT (colsL l) t <;> simp
theorem colsL_snoc (l : List Rel) (r : Rel) : colsL (l ++ [r]) = setI (colsL l ++ r.cols) := by
  refine rises_eq (setI_rises _) (setI_rises _) fun x => ?_
  rw [colsL, setI_mem, setI_mem, List.mem_append, colsL, setI_mem, List.flatMap_append]
  simp
theorem allJ_snoc (l : List Rel) (r : Rel) : allJ (l ++ [r]) = joinR (allJ l) r := by unfold allJ; rw [List.foldl_append]; rfl
theorem allJ_eq : ∀ (n : Nat) (l : List Rel), l.length = n → allJ l = ⟨colsL l, (tupsR l).filterMap (rowT (colsL l))⟩
  | 0, l, h => by
    obtain rfl := List.eq_nil_of_length_eq_zero h
    simp [allJ, colsL, tupsR, rowT, consB, setI]
  | n + 1, l, h => by
    rcases List.eq_nil_or_concat l with rfl | ⟨l, r, rfl⟩
    · cases h
    rw [List.concat_eq_append] at h ⊢
    have ih := allJ_eq n l (by simpa using h)
    rw [allJ_snoc, ih, tups_snoc, colsL_snoc]
    unfold joinR
    rw [← step_all (l := l) (r := r) (R := (tupsR l).filterMap (rowT (colsL l))) _ fun t h => h]
    rfl
theorem allJ_rows (l : List Rel) : (allJ l).rows = (tupsR l).filterMap (rowT (colsL l)) := by rw [allJ_eq _ l rfl]
theorem allJ_cols (l : List Rel) : (allJ l).cols = colsL l := by rw [allJ_eq _ l rfl]
end Go.Proofs.YtjplcdeaedflpaaGreatDoor.PL
namespace Go.Proofs.YtjplcdeaedflpaaGreatDoor.PL
open Go.Proofs
set_option linter.unusedVariables false
set_option linter.unusedSimpArgs false
abbrev semiR (a b : Rel) : Rel := someR a b true
theorem rightR_of {r : Rel} (h1 : r.cols.Pairwise (· < ·)) (h2 : ∀ l, l ∈ r.rows → l.length = r.cols.length) : rightR r = true := by
  unfold rightR risesB
  rw [Bool.and_eq_true, decide_eq_true_iff]
  refine ⟨h1, ?_⟩
  rw [Bool.not_eq_true', List.any_eq_false]
  intro x hx
  simp [wideB, h2 x hx]
theorem join_right (a b : Rel) : rightR (joinR a b) = true := by
  refine rightR_of (setI_rises _) fun l hl => ?_
  obtain ⟨x, _, hx⟩ := List.mem_flatMap.1 hl
  obtain ⟨y, _, rfl⟩ := List.mem_map.1 hx
  simp [rowJ, joinR]
/-- a halved step -/
def stepJ (l : List Rel) (h : Int × Int) : List Rel :=
  if h.1 ≠ h.2 ∧ 0 ≤ h.1 ∧ h.1 < l.length ∧ 0 ≤ h.2 ∧ h.2 < l.length then l.set h.1.toNat (semiR (heldR (l.getD h.1.toNat zR)) (heldR (l.getD h.2.toNat zR))) else l
def playJ (l : List Rel) (prog : List (Int × Int)) : List Rel := prog.foldl stepJ l
theorem stepJ_len (l : List Rel) (h : Int × Int) : (stepJ l h).length = l.length := by unfold stepJ; split <;> simp
theorem playJ_len (prog : List (Int × Int)) : ∀ l, (playJ l prog).length = l.length := by
  induction prog with
  | nil => intro l; rfl
  | cons h prog ih => intro l; show (playJ (stepJ l h) prog).length = _; rw [ih, stepJ_len]
theorem playJ_snoc (l : List Rel) (prog : List (Int × Int)) (h : Int × Int) : playJ l (prog ++ [h]) = stepJ (playJ l prog) h := by unfold playJ; rw [List.foldl_append]; rfl
def AllRight (l : List Rel) : Prop := ∀ r, r ∈ l → rightR r = true
theorem AllRight.map {l : List Rel} (h : AllRight l) : l.map heldR = l := by
  have e : l.map heldR = l.map id := List.map_congr_left fun r hr => heldR_of (h r hr)
  rw [e, List.map_id]
theorem AllRight.held (l : List Rel) : AllRight (l.map heldR) := fun r hr => by
  obtain ⟨x, _, rfl⟩ := List.mem_map.1 hr
  exact heldR_right x
theorem AllRight.set {l : List Rel} (h : AllRight l) {k : Nat} {r : Rel} (hr : rightR r = true) : AllRight (l.set k r) := fun x hx => by
  rcases List.mem_or_eq_of_mem_set hx with hx | rfl
  · exact h x hx
  · exact hr
/-- fewer rows, and none gone that takes part -/
structure Less (l' l : List Rel) : Prop where
  len : l'.length = l.length
  at' : ∀ i (h : i < l.length), ∃ Q : List Val → Bool, l'.getD i zR = ⟨(l.getD i zR).cols, (l.getD i zR).rows.filter Q⟩
  cons : ∀ t, consB t = true → t ∈ tupsR l → t ∈ tupsR l'
theorem all_kept (r : Rel) : r = ⟨r.cols, r.rows.filter fun _ => true⟩ := by
  have : r.rows.filter (fun _ => true) = r.rows := List.filter_eq_self.2 fun _ _ => rfl
  rw [this]
theorem Less.refl (l : List Rel) : Less l l := ⟨rfl, fun i h => ⟨fun _ => true, all_kept _⟩, fun t _ h => h⟩
theorem Less.trans {a b c : List Rel} (h : Less a b) (k : Less b c) : Less a c := by
  refine ⟨h.len.trans k.len, fun i hi => ?_, fun t hc ht => h.cons t hc (k.cons t hc ht)⟩
  obtain ⟨Q, hQ⟩ := h.at' i (by rw [k.len]; exact hi)
  obtain ⟨W, hW⟩ := k.at' i hi
  refine ⟨fun x => W x && Q x, ?_⟩
  rw [hQ, hW]
  simp [List.filter_filter, Bool.and_comm]
theorem getD_ltR {l : List Rel} {i : Nat} (h : i < l.length) : l.getD i zR = l[i] := by rw [List.getD_eq_getElem?_getD, List.getElem?_eq_getElem h]; rfl
theorem Less.cols {a b : List Rel} (h : Less a b) (i : Nat) : (a.getD i zR).cols = (b.getD i zR).cols := by
  rcases Nat.lt_or_ge i b.length with hi | hi
  · obtain ⟨Q, hQ⟩ := h.at' i hi
    rw [hQ]
  · rw [List.getD_eq_getElem?_getD, List.getD_eq_getElem?_getD, List.getElem?_eq_none hi, List.getElem?_eq_none (by rw [h.len]; exact hi)]
theorem colsL_getD (l : List Rel) {c : Int} : c ∈ colsL l ↔ ∃ i, i < l.length ∧ c ∈ (l.getD i zR).cols := by
  unfold colsL
  rw [setI_mem, List.mem_flatMap]
  constructor
  · rintro ⟨r, hr, hc⟩
    obtain ⟨i, hi, rfl⟩ := List.getElem_of_mem hr
    exact ⟨i, hi, by rw [getD_ltR hi]; exact hc⟩
  · rintro ⟨i, hi, hc⟩
    exact ⟨l[i], List.getElem_mem _, by rw [← getD_ltR hi]; exact hc⟩
theorem Less.same {a b : List Rel} (h : Less a b) : colsL a = colsL b := by
  refine rises_eq (setI_rises _) (setI_rises _) fun x => ?_
  show x ∈ colsL a ↔ x ∈ colsL b
  rw [colsL_getD, colsL_getD, h.len]
  simp only [h.cols]
end Go.Proofs.YtjplcdeaedflpaaGreatDoor.PL
namespace Go.Proofs.YtjplcdeaedflpaaGreatDoor.PL
open Go.Proofs
set_option linter.unusedVariables false
set_option linter.unusedSimpArgs false
theorem allJ_right (l : List Rel) : rightR (allJ l) = true := by
  rcases List.eq_nil_or_concat l with rfl | ⟨l, r, rfl⟩
  · decide
  · rw [List.concat_eq_append, allJ_snoc]; exact join_right _ _
/-- the product of all rows, and one each -/
def prodR : List Rel → Nat
  | [] => 1
  | r :: l => (r.rows.length + 1) * prodR l
theorem prodR_pos : ∀ l : List Rel, 0 < prodR l
  | [] => by simp [prodR]
  | r :: l => Nat.mul_pos (by omega) (prodR_pos l)
theorem flat_le {α β : Type} {f : α → List β} {k : Nat} : ∀ {l : List α}, (∀ x, x ∈ l → (f x).length ≤ k) → (l.flatMap f).length ≤ l.length * k
  | [], _ => by simp
  | a :: l, h => by
    have h1 := h a List.mem_cons_self
    have h2 := flat_le (f := f) (k := k) fun x hx => h x (List.mem_cons_of_mem _ hx)
    rw [List.flatMap_cons, List.length_append, List.length_cons, Nat.add_mul]
    omega
theorem tups_len : ∀ l : List Rel, (tupsR l).length ≤ prodR l
  | [] => by simp [tupsR, prodR]
  | r :: l => by
    have ih := tups_len l
    have h1 : (tupsR (r :: l)).length ≤ r.rows.length * (tupsR l).length :=
      flat_le (f := fun x => (tupsR l).map fun t => (r.cols, x) :: t) fun x _ => by rw [List.length_map]; exact Nat.le_refl _
    have h2 : r.rows.length * (tupsR l).length ≤ (r.rows.length + 1) * prodR l := Nat.mul_le_mul (by omega) ih
    show _ ≤ (r.rows.length + 1) * prodR l
    omega
theorem allJ_len (l : List Rel) : (allJ l).rows.length ≤ prodR l := by
  rw [allJ_rows]
  exact Nat.le_trans (List.length_filterMap_le ..) (tups_len l)
theorem prodR_take (l : List Rel) : ∀ k, prodR (l.take k) ≤ prodR l := by
  induction l with
  | nil => intro k; simp
  | cons r l ih =>
    intro k
    cases k with
    | zero => exact prodR_pos _
    | succ k => exact Nat.mul_le_mul_left _ (ih k)
theorem held_rows (r : Rel) : (heldR r).rows.length ≤ r.rows.length := by unfold heldR; split <;> simp [zR]
theorem held_cols (r : Rel) : (heldR r).cols.length ≤ r.cols.length := by unfold heldR; split <;> simp [zR]
theorem prodR_held (l : List Rel) : prodR (l.map heldR) ≤ prodR l := by
  induction l with
  | nil => exact Nat.le_refl _
  | cons r l ih =>
    have := held_rows r
    exact Nat.mul_le_mul (by omega) ih
/-- what is asked of some in the proofs -/
structure OkL (l : List Rel) : Prop where
  ok : ∀ r, r ∈ l → OkR r
  nc : ∀ r, r ∈ l → r.cols.length ≤ 20
  len : l.length ≤ 40
  pr : prodR l ≤ 100000
theorem OkL.take {l : List Rel} (h : OkL l) (k : Nat) : OkL (l.take k) :=
  ⟨fun r hr => h.ok r (List.mem_of_mem_take hr), fun r hr => h.nc r (List.mem_of_mem_take hr), by have := h.len; rw [List.length_take]; omega, Nat.le_trans (prodR_take l k) h.pr⟩
theorem OkL.held {l : List Rel} (h : OkL l) : OkL (l.map heldR) := by
  refine ⟨fun r hr => ?_, fun r hr => ?_, by simpa using h.len, Nat.le_trans (prodR_held l) h.pr⟩
  · obtain ⟨x, hx, rfl⟩ := List.mem_map.1 hr
    exact heldR_ok (h.ok x hx)
  · obtain ⟨x, hx, rfl⟩ := List.mem_map.1 hr
    exact Nat.le_trans (held_cols x) (h.nc x hx)
theorem colsL_len {l : List Rel} (h : OkL l) : (colsL l).length ≤ 800 := by
  have h1 := setI_len (l.flatMap Rel.cols)
  have h2 := flat_le (f := Rel.cols) (k := 20) (l := l) h.nc
  have h3 := h.len
  unfold colsL
  omega
theorem OkL.all {l : List Rel} (h : OkL l) : OkR (allJ l) := by
  refine ⟨?_, ?_, fun x hx => ?_⟩
  · have := colsL_len h
    rw [allJ_cols]; omega
  · have := allJ_len l
    have := h.pr
    omega
  · have hlen := colsL_len h
    rw [allJ_rows, List.mem_filterMap] at hx
    obtain ⟨t, ht, hx⟩ := hx
    unfold rowT at hx
    split at hx
    · cases hx
      refine ⟨by rw [List.length_map]; omega, fun v hv => ?_⟩
      obtain ⟨c, _, rfl⟩ := List.mem_map.1 hv
      have key : valT t c = zV4 ∨ ∃ e, e ∈ t ∧ valT t c ∈ e.2 := by
        unfold valT
        cases hf : t.find? (fun e => decide (c ∈ e.1)) with
        | none => exact .inl rfl
        | some e =>
          rcases pickF_mem (r := e.2) (p := idxF e.1 c) with h1 | h1
          · exact .inl h1
          · exact .inr ⟨e, List.mem_of_find?_eq_some hf, h1⟩
      rcases key with e | ⟨e, he, hm⟩
      · rw [e]; simp [zV4]
      · obtain ⟨h1, h2⟩ := tups_mem.1 ht
        obtain ⟨i, hi, rfl⟩ := List.getElem_of_mem he
        have := (h2 i hi (by omega)).2
        exact ((h.ok _ (List.getElem_mem (show i < l.length by omega))).row _ this).2 _ hm
    · cases hx
theorem sharedI_len2 (a b : List Int) : (sharedI a b).length ≤ b.length := by
  refine nodup_le ?_ fun x hx => (sharedI_mem'.1 hx).2
  unfold sharedI
  exact ((setI_rises a).imp (fun h => by omega)).filter _
instance : Sized Rel.av 2 := ⟨fun _ => rfl⟩
abbrev rels' (l : List Rel) : List AV := avs Rel.av l
theorem take_held {l : List Rel} {i : Nat} (h : i < l.length) : (l.take (i + 1)).map heldR = (l.take i).map heldR ++ [heldR l[i]] := by rw [take_next h, List.map_append]; rfl
theorem OkL.step {l : List Rel} (h : OkL l) {i : Nat} (hi : i < l.length) : OkR (allJ ((l.take i).map heldR)) ∧ OkR l[i] ∧ (bothR (heldR (allJ ((l.take i).map heldR))) (heldR l[i])).length ≤ 40 ∧ joinR (heldR (allJ ((l.take i).map heldR))) (heldR l[i]) = allJ ((l.take (i + 1)).map heldR) := by
  have h1 := (h.take i).held.all
  have h2 := h.ok _ (List.getElem_mem hi)
  have h3 := h.nc _ (List.getElem_mem hi)
  refine ⟨h1, h2, ?_, ?_⟩
  · have := sharedI_len2 (heldR (allJ ((l.take i).map heldR))).cols (heldR l[i]).cols
    have := held_cols l[i]
    show (sharedI _ _).length ≤ 40
    omega
  · rw [take_held hi, allJ_snoc, heldR_of (allJ_right _)]
end Go.Proofs.YtjplcdeaedflpaaGreatDoor.PL
namespace Go.Proofs.YtjplcdeaedflpaaGreatDoor.PL
open Go.Proofs
set_option linter.unusedVariables false
set_option linter.unusedSimpArgs false
/-- more than is asked of some -/
def wideF : Nat → Nat → List Rel → Bool
  | _, _, [] => false
  | n, i, r :: l => muchR r || (decide (2000 < n * (r.rows.length + 1)) || decide (10 ≤ i)) || wideF (n * (r.rows.length + 1)) (i + 1) l
def wideL (l : List Rel) : Bool := wideF 1 0 l
theorem wideF_no : ∀ {l : List Rel} {n i : Nat}, wideF n i l = false → (∀ r, r ∈ l → muchR r = false) ∧ (l ≠ [] → n * prodR l ≤ 2000 ∧ i + l.length ≤ 10)
  | [], n, i, h => ⟨fun r hr => (List.not_mem_nil hr).elim, fun h => absurd rfl h⟩
  | r :: l, n, i, h => by
    unfold wideF at h
    simp only [Bool.or_eq_false_iff, decide_eq_false_iff_not] at h
    obtain ⟨⟨h1, h2, h3⟩, h4⟩ := h
    obtain ⟨i1, i2⟩ := wideF_no h4
    refine ⟨fun x hx => ?_, fun _ => ?_⟩
    · rcases List.mem_cons.1 hx with rfl | hx
      · exact h1
      · exact i1 x hx
    · by_cases hl : l = []
      · subst hl
        refine ⟨?_, by simp; omega⟩
        show n * ((r.rows.length + 1) * 1) ≤ 2000
        rw [Nat.mul_one]; omega
      · obtain ⟨j1, j2⟩ := i2 hl
        refine ⟨?_, by rw [List.length_cons]; omega⟩
        show n * ((r.rows.length + 1) * prodR l) ≤ 2000
        rw [← Nat.mul_assoc]; exact j1
theorem wideL_no {l : List Rel} (h : wideL l = false) (hi : ∀ r, r ∈ l → RelIn r) : OkL l ∧ prodR l ≤ 2000 ∧ l.length ≤ 10 := by
  obtain ⟨h1, h2⟩ := wideF_no h
  have hk : ∀ r, r ∈ l → OkR r ∧ r.cols.length ≤ 20 ∧ r.rows.length ≤ 30 := fun r hr => muchR_ok (h1 r hr) (hi r hr)
  by_cases hl : l = []
  · subst hl
    exact ⟨⟨fun r hr => (List.not_mem_nil hr).elim, fun r hr => (List.not_mem_nil hr).elim, by simp, by simp [prodR]⟩, by simp [prodR], by simp⟩
  · obtain ⟨h3, h4⟩ := h2 hl
    rw [Nat.one_mul] at h3
    exact ⟨⟨fun r hr => (hk r hr).1, fun r hr => (hk r hr).2.1, by omega, by omega⟩, h3, by omega⟩
theorem wide_next {l : List Rel} {n i : Nat} (h : i < l.length) : wideF n i (l.drop i) = (muchR l[i] || (decide (2000 < n * (l[i].rows.length + 1)) || decide (10 ≤ i)) || wideF (n * (l[i].rows.length + 1)) (i + 1) (l.drop (i + 1))) := by
  rw [List.drop_eq_getElem_cons h]; rfl
theorem T_rwide24 (l : List Rel) (hl : l.length < 4611686018427387904) (hi : ∀ r, r ∈ l → RelIn r) : T Tryz.prog 20 [.sl .no (rels' l)] (.bool (wideL l)) := by
  obtain ⟨W, hW⟩ : ∃ W, W = wideL l := ⟨_, rfl⟩
  rw [← hW]
  refine T.intro (TS.body mix Tryz.func20 (by kernel_rfl) rfl (by kernel_rfl) (by simp) ?_)
  simp
  refine vc_loop (fun i : Nat => l.length - i) (fun i e H => e 0 = .sl .no (rels' l) ∧ e 4 = .int .i64 i ∧ i ≤ l.length ∧ ∃ n : Nat, e 3 = .int .i64 n ∧ n ≤ 2000 ∧ W = wideF n i (l.drop i)) 0 ?_ ?_
  · simp
    exact ⟨1, by simp, by omega, hW⟩
  clear hW
  rintro i e H ⟨e0, e4, hi2, n, e3, hn, hw⟩
  by_cases hlt : i < l.length
  · have ew := wrap_next hlt (by omega)
    have hr := hi _ (List.getElem_mem hlt)
    have k1 := T_rmuch24 l[i] hr.nc hr.nr fun x hx v hv => ((hr.row x hx).2 v hv).2.2
    rw [wide_next hlt] at hw
    simp [e0, e3, e4, hlt]
    refine TS.callW k1 (Dws.self (by simp)) ?_
    cases hm : muchR l[i] with
    | true =>
      rw [hm] at hw
      simp [hw]
    | false =>
      obtain ⟨_, _, h30⟩ := muchR_ok hm hr
      have hp : n * (l[i].rows.length + 1) ≤ 2000 * 31 := Nat.mul_le_mul hn (by omega)
      rw [hm, Bool.false_or] at hw
      obtain ⟨m, hm2⟩ : ∃ m, m = n * (l[i].rows.length + 1) := ⟨_, rfl⟩
      have e2 : IntKind.i64.wrap ((n : Int) * ((l[i].rows.length : Int) + 1)) = (m : Int) := by
        have : (n : Int) * ((l[i].rows.length : Int) + 1) = (m : Int) := by rw [hm2, Int.natCast_mul]; rfl
        rw [this, wrap_i64 (by omega) (by omega)]
      have e1 : IntKind.i64.wrap ((l[i].rows.length : Int) + 1) = (l[i].rows.length : Int) + 1 := wrap_i64 (by omega) (by omega)
      rw [← hm2] at hp hw
      simp [e0, e3, e4, hlt, e1, e2]
      refine condK_of (fun c => ?_) (fun c => ?_)
      · simp at c
        have : W = true := by
          rw [hw, Bool.or_eq_true, Bool.or_eq_true, decide_eq_true_iff, decide_eq_true_iff]
          left; omega
        simp [this]
      · simp at c
        simp [e0, e3, e4, e1, e2]
        refine ⟨i + 1, by omega, ew, by omega, m, rfl, by omega, ?_⟩
        rw [hw, decide_eq_false (by omega), decide_eq_false (by omega)]
        rfl
  · have : i = l.length := by omega
    subst this
    rw [List.drop_of_length_le (Nat.le_refl _)] at hw
    simp [e0, e3, e4, hw, wideF]
theorem Rel_in2 {cs : List AV} (h : Sh Tryz.prog 25 cs) : ∃ r : Rel, cs = r.cs ∧ RelIn r := by
  have hrl := reach_lt
  obtain ⟨hl, hf⟩ := h.struct_of ft_25
  obtain ⟨x, y, rfl⟩ : ∃ x y, cs = [x, y] := by
    match cs, hl with
    | [x, y], _ => exact ⟨x, y, rfl⟩
  obtain ⟨l, h1, hn⟩ := ints_in (hf (22, 0, 1) (by simp))
  obtain ⟨zs, h3, hz, hzl⟩ := (hf (23, 1, 1) (by simp)).sl_of un_23 ag_59
  simp at h1 h3
  subst h1; subst h3
  obtain ⟨rows, er, elr, hrow⟩ := list_in (f := rowA) (g := mkAV false) (Q := fun r => r.length < 4611686018427387904 ∧ ∀ v, v ∈ r → valIn v) (fun z hz' => by
    obtain ⟨l, e, hv, hlen⟩ := vals_in (hz z hz')
    exact ⟨l, by rw [e]; rfl, hlen, hv⟩)
  have b2 : 1 ≤ Tryz.prog.bytesOf 59 := by decide +kernel
  have m2 := Nat.mul_le_mul_left zs.length b2
  exact ⟨⟨l, rows⟩, by rw [er]; rfl, hn.2, by show rows.length < _; omega, hrow⟩
end Go.Proofs.YtjplcdeaedflpaaGreatDoor.PL
namespace Go.Proofs.YtjplcdeaedflpaaGreatDoor.PL
open Go.Proofs
set_option linter.unusedVariables false
set_option linter.unusedSimpArgs false
theorem rels_in {cs : List AV} (h : Sh Tryz.prog 31 cs) : ∃ l : List Rel, cs = [.sl .no (rels' l)] ∧ (∀ r, r ∈ l → RelIn r) ∧ l.length < 4611686018427387904 := by
  obtain ⟨ys, rfl, hy, b⟩ := h.sl_of un_31 ag_25
  obtain ⟨l, e, el, hl⟩ := list_in (f := Rel.av) (g := mkAV true) (Q := RelIn) (fun y hy' => by
    obtain ⟨r, e, hr⟩ := Rel_in2 (hy y hy')
    exact ⟨r, by rw [e]; rfl, hr⟩)
  have hb : 1 ≤ Tryz.prog.bytesOf 25 := by decide +kernel
  have hr := reach_lt
  have := Nat.mul_le_mul_left ys.length hb
  exact ⟨l, by rw [e]; rfl, hl, by omega⟩
end Go.Proofs.YtjplcdeaedflpaaGreatDoor.PL
