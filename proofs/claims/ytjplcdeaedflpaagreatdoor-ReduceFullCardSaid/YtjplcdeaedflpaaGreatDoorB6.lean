/- Contracts of functions of the program, and plain laws (part 6): Halves: up and down a tree; A contract of the library  slices.Grow on numbers , laid at this program by the kit's own tools; Lists of numbers put together by the library; Relations: both together; Relations: both together, by the reference. -/
import Derived.Test.YtjplcdeaedflpaaGreatDoorB0
import Derived.Test.YtjplcdeaedflpaaGreatDoorB1
import Derived.Test.YtjplcdeaedflpaaGreatDoorB4
import Derived.Test.YtjplcdeaedflpaaGreatDoorB5
import Derived.Shelf.Spec.SlicesGrow
import Derived.Test.YtjplcdeaedflpaaGreatDoorProg
namespace Go.Proofs.YtjplcdeaedflpaaGreatDoor.PL
open Go.Proofs Go.RowKit
set_option linter.unusedVariables false
set_option linter.unusedSimpArgs false
@[simp] abbrev halfA (p : Int × Int) : AV := .agg [.int .i64 p.1, .int .i64 p.2]
instance : Sized halfA 2 := ⟨fun _ => rfl⟩
instance : Plain halfA := ⟨fun _ => rfl⟩
instance : Selfs halfA := ⟨fun a x h => by simp at h; rcases h with rfl | rfl <;> simp⟩
abbrev halves' (l : List (Int × Int)) : List AV := avs halfA l
def belowL (ps : List Int) : List (Int × Int) := belowP ps (downI (heldI ps))
theorem belowL_len (ps : List Int) : (belowL ps).length ≤ ps.length := by
  unfold belowL belowP
  rw [List.length_map]
  refine Nat.le_trans (List.length_filter_le ..) ?_
  rw [downI_len]
  exact heldI_len ps
theorem S_below (ps : List Int) (H : List HO) : TS Tryz.prog 67 [.sl .no (ints' ps)] H (pt (.fn (.func 105) [] [.ptr H.length 0]) (H ++ [.box [.sl .no (ints' ps)]])) := by
  refine TS.body mix Tryz.func67 (by kernel_rfl) rfl (by kernel_rfl) (by simp) ?_
  simp
def DJ (ps : List Int) (k : Nat) (x : Obj) (H : List HO) : Prop := ∃ c L, H = .box [c] :: .box [.sl .no (ints' ps)] :: .raw (.deferred (some [])) :: .raw x :: L ∧ GrowX 4 2 L c (halves' ((belowL ps).take k))
theorem half_get {l : List (Int × Int)} {k : Nat} (h : k < (l.map halfIn).length) : ∃ h' : k < l.length, (l.map halfIn).getD k [] = [.int .i64 l[k].1, .int .i64 l[k].2] := by
  have h' : k < l.length := by simpa using h
  refine ⟨h', ?_⟩
  rw [List.getD_eq_getElem?_getD, List.getElem?_eq_getElem h]
  simp
theorem T_rdDown (ps : List Int) (hl : ps.length < 60) : T Tryz.prog 28 [.sl .no (ints' ps)] (.sl .no (halves' (belowL ps))) := by
  have hbl := belowL_len ps
  refine T.introF (TS.ranged [] Tryz.func28 (by kernel_rfl) rfl (by kernel_rfl) (by simp) (below_it ps hl 1) (enters_of Tryz.func105 (by kernel_rfl) rfl) (fun k hk => ?_) ?_)
  · obtain ⟨h', e⟩ := half_get hk
    rw [e]; rfl
  simp
  refine TS.pt (S_below ps _) ?_
  simp
  refine ⟨rfl, by simp, DJ ps, fun x => ⟨_, [], rfl, .inl ⟨by simp, .inr rfl⟩⟩, ?_, ?_, ?_⟩
  · rintro k x H' ⟨c, L, rfl, hg⟩
    exact ⟨rfl, rfl, rfl, fun y => ⟨c, L, rfl, hg⟩⟩
  · rintro k x H' hk ⟨c, L, rfl, hg⟩
    obtain ⟨hk', e⟩ := half_get hk
    have hnx : (belowL ps).take (k + 1) = (belowL ps).take k ++ [(belowL ps)[k]'hk'] := take_next hk'
    have hml : ((belowL ps).take k).length = k := by
      have : k < (belowL ps).length := hk'
      simp; omega
    rw [e]
    obtain ⟨p, hp⟩ : ∃ p, p = (belowL ps)[k]'hk' := ⟨_, rfl⟩
    rw [← hp] at hnx
    have hp' : (belowP ps (downI (heldI ps)))[k]'hk' = p := hp.symm
    rw [hp']
    rcases hg with ⟨ge, zx⟩ | ⟨t, rfl, ht⟩
    · rw [avs_eq_nil] at ge
      have ex := GrowX.ex0 zx
      simp [setps, ex]
      refine fun y => ⟨_, _, rfl, ?_⟩
      rw [hnx]
      exact GrowX.first (f := halfA) ge rfl
    · have hw := ht
      simp only [avs_length] at hw
      simp [setps, hw]
      have hk2 : k < (belowL ps).length := hk'
      refine fun y => ⟨⟨by omega, by omega⟩, _, _, rfl, ?_⟩
      rw [hnx]
      exact GrowX.more (f := halfA) ht (by omega)
  · rintro x H' ⟨c, L, rfl, hg⟩
    rw [List.length_map] at hg
    have : (belowL ps).take (belowP ps (downI (heldI ps))).length = belowL ps := List.take_length
    rw [this] at hg
    obtain ⟨own, rfl⟩ := hg.own
    simp
    exact Frz.slN (f := halfA)
theorem S_revH0 (H : List HO) (own : Own) : TS Tryz.prog 68 [.sl own []] H (pt (.tup []) H) := by
  refine TS.body mix Tryz.func68 (by kernel_rfl) rfl (by kernel_rfl) (by simp) ?_
  simp
  refine vc_loop (fun i : Nat => 0) (fun i e H' => e 2 = .int .i64 0 ∧ e 3 = .int .i64 (-1) ∧ H' = H) 0 ?_ ?_
  · simp
  rintro i e H' ⟨h2, h3, rfl⟩
  simp [h2, h3]
theorem S_revH (H : List HO) (r n : Nat) (xs : List (Int × Int)) (hn : xs.length = n) (hr : H[r]? = some (.row n 2 ((halves' xs).flatMap AV.cells))) (hp : 0 < n) (hl : n ≤ 1000000) : TS Tryz.prog 68 [.mv r n 2 0 n] H (pt (.tup []) (H.set r (.row n 2 ((halves' xs.reverse).flatMap AV.cells)))) := by
  have hrl := (List.getElem?_eq_some_iff.1 hr).1
  have h00 : H = H.set r (.row n 2 ((halves' xs).flatMap AV.cells)) := by
    have : H[r] = .row n 2 ((halves' xs).flatMap AV.cells) := by rw [List.getElem?_eq_getElem hrl] at hr; exact Option.some.inj hr
    rw [← this, List.set_getElem_self]
  have w0 : IntKind.i64.wrap ((n : Int) - 1) = ((n - 1 : Nat) : Int) := by rw [wrap_i64 (by omega) (by omega)]; omega
  refine TS.body mix Tryz.func68 (by kernel_rfl) rfl (by kernel_rfl) (by simp) ?_
  simp [w0]
  refine vc_loop (fun i : Nat => n - i) (fun i e H' => ∃ (L : List (Int × Int)) (j : Nat), e 0 = .mv r n 2 0 n ∧ e 2 = .int .i64 i ∧ e 3 = .int .i64 (j : Int) ∧ j + i + 1 = n ∧ i ≤ j + 1 ∧ L.length = n ∧ (∀ k, k < n → L[k]? = if k < i ∨ j < k then xs[n - 1 - k]? else xs[k]?) ∧ H' = H.set r (.row n 2 ((halves' L).flatMap AV.cells))) 0 ?_ ?_
  · exact ⟨xs, n - 1, by simp, by simp, by simp, by omega, by omega, hn, fun k hk => by rw [if_neg (by omega)], h00⟩
  rintro i e H' ⟨L, j, h0, h2, h3, hij, hij2, hL, hk, rfl⟩
  by_cases hlt : i < j
  · have hiL : i < L.length := by omega
    have hjL : j < L.length := by omega
    have ew := wrap_next (i := i) (n := n) (by omega) (by omega)
    have w1 : IntKind.i64.wrap ((j : Int) - 1) = ((j - 1 : Nat) : Int) := by rw [wrap_i64 (by omega) (by omega)]; omega
    have b1 : i < n := by omega
    have b2 : j < n := by omega
    have a1 := flatA_at (f := halfA) (sz := 2) L hiL
    have a2 := flatA_at (f := halfA) (sz := 2) L hjL
    have hml := flatA_len (f := halfA) (sz := 2) L
    rw [List.length_flatMap, hL] at hml
    have q1 : ((halves' L).flatMap AV.cells).take (i * 2) ++ ((halfA L[j]).cells ++ ((halves' L).flatMap AV.cells).drop (i * 2 + 2)) = (halves' (L.set i L[j])).flatMap AV.cells := flatA_put (f := halfA) (sz := 2) L hiL (k := 0) (new := (halfA L[j]).cells) (a := L[j]) (by simp) (by simp)
    have q2 : ((halves' (L.set i L[j])).flatMap AV.cells).take (j * 2) ++ ((halfA L[i]).cells ++ ((halves' (L.set i L[j])).flatMap AV.cells).drop (j * 2 + 2)) = (halves' ((L.set i L[j]).set j L[i])).flatMap AV.cells := flatA_put (f := halfA) (sz := 2) (L.set i L[j]) (by simpa using hjL) (k := 0) (new := (halfA L[i]).cells) (a := L[i]) (by simp) (by simp)
    have m1 : min 2 (n * 2 - j * 2) = 2 := by omega
    have m2 : min 2 (n * 2 - i * 2) = 2 := by omega
    have m3 : min (i * 2) (n * 2) = i * 2 := by omega
    simp [h0, h2, h3, hlt, hrl, hiL, hjL, hL, b1, b2]
    simp only [hml, m1, m2, m3, a1, a2, q1, q2]
    refine ⟨by omega, by omega, trivial, by omega, trivial, by omega, i + 1, by omega, ew, (L.set i L[j]).set j L[i], j - 1, w1, by omega, by omega, by simp [hL], fun k hkn => ?_, rfl⟩
    have hki := hk k hkn
    have hki2 := hk i b1
    have hki3 := hk j b2
    rw [if_neg (by omega), List.getElem?_eq_getElem hiL] at hki2
    rw [if_neg (by omega), List.getElem?_eq_getElem hjL] at hki3
    rw [List.getElem?_set, List.getElem?_set]
    by_cases c1 : j = k
    · subst c1
      rw [if_pos rfl, if_pos (by simpa using hjL), if_pos (by omega), hki2]
      congr 1; omega
    · rw [if_neg c1]
      by_cases c2 : i = k
      · subst c2
        rw [if_pos rfl, if_pos hiL, if_pos (by omega), hki3]
        congr 1; omega
      · rw [if_neg c2, hki]
        by_cases c3 : k < i ∨ j < k
        · rw [if_pos c3, if_pos (by omega)]
        · rw [if_neg c3, if_neg (by omega)]
  · have hc : ¬ (i : Int) < j := by omega
    have : L = xs.reverse := by
      apply List.ext_getElem?
      intro k
      rcases Nat.lt_or_ge k n with hkn | hkn
      · rw [hk k hkn, List.getElem?_reverse (by omega), hn]
        split
        · rfl
        · have : n - 1 - k = k := by omega
          rw [this]
      · rw [List.getElem?_eq_none (by omega), List.getElem?_eq_none (by simp; omega)]
    subst this
    simp [h0, h2, h3, hlt]
/-- a row of halves that grows, behind four things -/
def GrowR (L : List HO) (c : AV) (l : List (Int × Int)) : Prop := (l = [] ∧ (c = .sl .nil [] ∨ c = .sl .exact [])) ∨ 0 < l.length ∧ ∃ t, c = .mv (t + 4) l.length 2 0 l.length ∧ L[t]? = some (.row l.length 2 ((halves' l).flatMap AV.cells))
def upL (ps : List Int) : List (Int × Int) := (belowL ps).map fun p => (p.2, p.1)
def UJ (ps : List Int) (k : Nat) (x : Obj) (H : List HO) : Prop := ∃ c L, H = .box [c] :: .box [.sl .no (ints' ps)] :: .raw (.deferred (some [])) :: .raw x :: L ∧ GrowR L c ((upL ps).take k)
theorem S_rdUp (ps : List Int) (hl : ps.length < 60) : TS Tryz.prog 27 [.sl .no (ints' ps)] [] (fun r H' => (upL ps = [] ∧ (r = .sl .nil [] ∨ r = .sl .exact [])) ∨ 0 < (upL ps).length ∧ ∃ t, r = .mv t (upL ps).length 2 0 (upL ps).length ∧ H'[t]? = some (.row (upL ps).length 2 ((halves' (upL ps).reverse).flatMap AV.cells))) := by
  have hbl := belowL_len ps
  have hul : (upL ps).length = (belowL ps).length := by unfold upL; rw [List.length_map]
  refine TS.ranged [15] Tryz.func27 (by kernel_rfl) rfl (by kernel_rfl) (by simp) (below_it ps hl 1) (enters_of Tryz.func105 (by kernel_rfl) rfl) (fun k hk => ?_) ?_
  · obtain ⟨h', e⟩ := half_get hk
    rw [e]; rfl
  simp
  refine TS.pt (S_below ps _) ?_
  simp
  refine ⟨rfl, by simp, UJ ps, fun x => ⟨_, [], rfl, .inl ⟨by simp, .inr rfl⟩⟩, ?_, ?_, ?_⟩
  · rintro k x H' ⟨c, L, rfl, hg⟩
    exact ⟨rfl, rfl, rfl, fun y => ⟨c, L, rfl, hg⟩⟩
  · rintro k x H' hk ⟨c, L, rfl, hg⟩
    obtain ⟨hk', e⟩ := half_get hk
    have hk2 : k < (belowL ps).length := hk'
    obtain ⟨p, hp⟩ : ∃ p, p = (belowL ps)[k]'hk' := ⟨_, rfl⟩
    have hp' : (belowP ps (downI (heldI ps)))[k]'hk' = p := hp.symm
    have hnx : (upL ps).take (k + 1) = (upL ps).take k ++ [(p.2, p.1)] := by
      rw [take_next (by omega)]
      congr 2
      rw [hp]
      simp [upL]
      exact ⟨rfl, rfl⟩
    have hml : ((upL ps).take k).length = k := by simp; omega
    rw [e, hp']
    rcases hg with ⟨ge, zx⟩ | ⟨_, t, rfl, ht⟩
    · have ex := GrowX.ex0 zx
      simp [setps, ex]
      refine fun y => ⟨_, _, rfl, .inr ⟨by rw [hnx]; simp, L.length, ?_, ?_⟩⟩
      · rw [hnx, ge]; rfl
      · rw [hnx, ge]; simp
    · rw [hml] at ht
      simp [setps, ht, hml]
      have hl1 : ((upL ps).take (k + 1)).length = k + 1 := by rw [hnx, List.length_append, hml]; rfl
      have htl := (List.getElem?_eq_some_iff.1 ht).1
      refine fun y => ⟨⟨by omega, by omega⟩, _, _, rfl, .inr ⟨by omega, t, ?_, ?_⟩⟩
      · rw [hl1]
      · rw [hl1, List.getElem?_set_self htl, hnx]
        simp [avs]
  · rintro x H' ⟨c, L, rfl, hg⟩
    rw [List.length_map] at hg
    have : (upL ps).take (belowP ps (downI (heldI ps))).length = upL ps := by
      have : (belowP ps (downI (heldI ps))).length = (upL ps).length := hul.symm
      rw [this, List.take_length]
    rw [this] at hg
    rcases hg with ⟨h0, hc⟩ | ⟨h0, t, rfl, ht⟩
    · have hcc : ∃ own, c = .sl own [] ∧ (c = .sl .nil [] ∨ c = .sl .exact []) := by rcases hc with rfl | rfl <;> exact ⟨_, rfl, by simp⟩
      obtain ⟨own, rfl, hcc⟩ := hcc
      simp
      refine TS.pt (S_revH0 _ own) ?_
      simp
      exact ⟨h0, by simpa using hcc⟩
    · have hrv := S_revH (.box [.mv (t + 4) (upL ps).length 2 0 (upL ps).length] :: .box [.sl .no (ints' ps)] :: .raw (.deferred (some [])) :: .raw x :: L) (t + 4) (upL ps).length (upL ps) rfl (by simpa using ht) (by omega) (by omega)
      simp
      refine TS.pt hrv ?_
      simp
      rw [List.getElem?_set_self (List.getElem?_eq_some_iff.1 ht).1]
      exact ⟨h0, rfl⟩
def progL (ps : List Int) : List (Int × Int) := (upL ps).reverse ++ belowL ps
theorem T_rdProgram (ps : List Int) (hl : ps.length < 60) : T Tryz.prog 29 [.sl .no (ints' ps)] (.sl .no (halves' (progL ps))) := by
  have hbl := belowL_len ps
  have hul : (upL ps).length = (belowL ps).length := by unfold upL; rw [List.length_map]
  have k2 := T_rdDown ps hl
  refine T.introF (TS.body mix Tryz.func29 (by kernel_rfl) rfl (by kernel_rfl) (by simp) ?_)
  simp
  refine (S_rdUp ps hl).mono ?_
  rintro r H' (⟨h0, hr⟩ | ⟨h0, t, rfl, ht⟩)
  · have hb0 : belowL ps = [] := List.eq_nil_of_length_eq_zero (by rw [← hul, h0]; rfl)
    have hp0 : progL ps = [] := by unfold progL; rw [h0, hb0]; rfl
    rw [hb0] at k2
    rw [hp0]
    rcases hr with rfl | rfl
    · simp
      refine TS.callW k2 (Dws.self (by simp)) ?_
      simp
      exact Frz.slN (f := halfA) (l := [])
    · simp
      refine TS.callW k2 (Dws.self (by simp)) ?_
      simp
      exact Frz.slN (f := halfA) (l := [])
  · simp
    refine TS.callW k2 (Dws.self (by simp)) ?_
    have htl := (List.getElem?_eq_some_iff.1 ht).1
    have hpl : (progL ps).length = (upL ps).length + (belowL ps).length := by unfold progL; simp
    simp [ht]
    refine ⟨⟨by omega, by omega⟩, ?_⟩
    rw [← hpl]
    refine Frz.mvA (f := halfA) (sz := 2) ?_ (by simp)
    rw [List.getElem?_set_self htl]
    simp [progL, avs]
theorem prog_live : progL [-1, 0, 1] = [(1, 2), (0, 1), (1, 0), (2, 1)] := by
  have hh : heldI [-1, 0, 1] = [-1, 0, 1] := by decide +kernel
  have hd : downI [-1, 0, 1] = [0, 1, 2] := DownOf.uniq (downI_of _) ⟨by decide +kernel, by unfold dleP; decide +kernel⟩
  unfold progL upL belowL
  rw [hh, hd]
  decide +kernel
theorem T_live25 : T Tryz.prog 24 [] (.bool true) := by
  have k1 := T_rdProgram [-1, 0, 1] (by decide)
  rw [prog_live] at k1
  refine T.intro (TS.body mix Tryz.func24 (by kernel_rfl) rfl (by kernel_rfl) (by simp) ?_)
  simp
  refine TS.callW k1 (.cons (.sl (Dws.self (by simp))) .nil) ?_
  simp
def swpP (p : Int × Int) : Int × Int := (p.2, p.1)
theorem below_rev (ps Z : List Int) : belowP ps Z.reverse = (belowP ps Z).reverse := by unfold belowP; rw [List.filter_reverse, List.map_reverse]
theorem up_rev (ps : List Int) : (belowP ps (downI (heldI ps)).reverse).map swpP = (upL ps).reverse := by
  rw [below_rev, List.map_reverse]; rfl
theorem parOf_nat {ps : List Int} {m : Nat} (h : m < ps.length) : parOf ps (m : Int) = ps[m] := by
  unfold parOf
  rw [Int.toNat_natCast, List.getD_eq_getElem?_getD, List.getElem?_eq_getElem h]
  rfl
end Go.Proofs.YtjplcdeaedflpaaGreatDoor.PL
namespace Go.Proofs
open Go.Shelf
def Tryz.laysGrowI_ren : Go.Shelf.Ren := ⟨fun | 4 => 116 | n => n, fun | 22 => 22 | 25 => 3 | 3 => 3 | 4 => 4 | 9 => 9 | 20 => 20 | 0 => 0 | n => n, fun | n => n⟩
theorem Tryz.laysGrowI : Go.Proofs.Lays8.n4 Tryz.prog Tryz.laysGrowI_ren := {
  mixed := by kernel_rfl
  f4 := ⟨Tryz.f116.name, by decide, Tryz.func116.trans (congrArg some (by kernel_rfl))⟩
  t0 := Tryz.underlying0
  a0 := Tryz.isAgg0
  z0 := Tryz.sizeOf0
  v0 := Tryz.zeroValue0
  t3 := Tryz.underlying3
  a3 := Tryz.isAgg3
  z3 := Tryz.sizeOf3
  v3 := Tryz.zeroValue3
  t4 := Tryz.underlying4
  a4 := Tryz.isAgg4
  z4 := Tryz.sizeOf4
  v4 := Tryz.zeroValue4
  t9 := Tryz.underlying9
  a9 := Tryz.isAgg9
  z9 := Tryz.sizeOf9
  v9 := Tryz.zeroValue9
  t20 := Tryz.underlying20
  a20 := Tryz.isAgg20
  z20 := Tryz.sizeOf20
  v20 := Tryz.zeroValue20
  t22 := Tryz.underlying22
  a22 := Tryz.isAgg22
  z22 := Tryz.sizeOf22
  v22 := Tryz.zeroValue22 }
end Go.Proofs
namespace Go.Proofs.YtjplcdeaedflpaaGreatDoor.PL
open Go.Proofs
set_option linter.unusedVariables false
set_option linter.unusedSimpArgs false
def Gh.addTC (Γ : Gh) (i b cap : Nat) : Gh := { Γ with T := fun j m => if j = i ∧ m = 0 then some (b, cap) else Γ.T j m }
theorem S_growNoneC (H : List HO) : TS Tryz.prog 116 [.sl .nil [], .int .i64 0] H (pt (.sl .nil []) H) := by
  intro w0 Γ w vs hr hv
  cases hv with
  | cons h t =>
  cases t with
  | cons h2 t =>
  cases t
  cases h2
  cases h with
  | sl hn hs h1 h hi ho hc => cases ho.2
  | sl0 ho =>
    obtain ⟨rfl, rfl⟩ := ho
    refine .inl ⟨⟨_, Tryz.func116, by kernel_rfl, by kernel_rfl⟩, (Any8.slices_Grow_room Tryz.laysGrowI none 0 0 0 w (by omega) (by omega) (by omega) (by omega)).mono ?_⟩
    rintro e' w' ⟨rfl, rfl⟩
    exact ⟨Γ, _, .sl .nil [], H, rfl, Gh.Le.refl _, .sl0 ⟨rfl, rfl⟩, hr, rfl, rfl⟩
theorem S_growIC (H : List HO) (n : Nat) (hn : 0 < n) (hb : n ≤ 1000000) : TS Tryz.prog 116 [.sl .nil [], .int .i64 n] H (pt (.sl (.tok H.length) []) (H ++ [.spare 0 1])) := by
  intro w0 Γ w vs hr hv
  cases hv with
  | cons h t =>
  cases t with
  | cons h2 t =>
  cases t
  cases h2
  cases h with
  | sl hn hs h1 h hi ho hc => cases ho.2
  | sl0 ho =>
    obtain ⟨rfl, rfl⟩ := ho
    have hsome : (Tryz.prog.info? 3).isSome = true := by kernel_rfl
    have hi0 : Tryz.prog.info? 3 = some ((Tryz.prog.info? 3).get hsome) := (Option.some_get _).symm
    have hsz : ((Tryz.prog.info? 3).get hsome).size = 1 := by kernel_rfl
    have hby : ((Tryz.prog.info? 3).get hsome).bytes = 8 := by kernel_rfl
    have hzr : ((Tryz.prog.info? 3).get hsome).zero = some (.int .i64 0) := by kernel_rfl
    generalize (Tryz.prog.info? 3).get hsome = i0 at *
    refine .inl ⟨⟨_, Tryz.func116, by kernel_rfl, by kernel_rfl⟩, (Any8.slices_Grow_grow Tryz.laysGrowI i0 (.int .i64 0) hi0 hzr (by omega) none 0 0 n [] w (by omega) (by omega) (by rw [hby]; omega) (by omega) (by simp) (fun _ => rfl) (fun a h => by cases h)).mono ?_⟩
    rintro e' w' ⟨rfl, rfl⟩
    have hG1 := grownCap_ge w (0 + n) 0 3
    have hG2 := grownCap_le_maxLen w (0 + n) 0 3 (by unfold maxLen; omega)
    obtain ⟨G, hG⟩ : ∃ G, G = grownCap w (0 + n) 0 3 := ⟨_, rfl⟩
    rw [show Tryz.laysGrowI_ren.t 25 = 3 from rfl]
    rw [← hG] at hG1 hG2 ⊢
    have le : Gh.Le Γ (Γ.addTC H.length w.heap.size G) := ⟨fun _ _ _ h => h, fun _ _ h => h, fun t m p h => by
      simp only [Gh.addTC]
      split
      · rename_i hh
        have := (hr.fresh H.length (Nat.le_refl _)).2 m
        rw [hh.1, this] at h
        cases h
      · exact h⟩
    refine ⟨Γ.addTC H.length w.heap.size G, _, .sl (.tok H.length) [], H ++ [.spare 0 1], rfl, le, .sl0 ⟨w.heap.size, rfl, by simp [Gh.addTC]⟩, ?_, rfl, rfl⟩
    refine hr.push (.spare 0 1) w.heap.size (((Go.RowKit.Below.refl _ _).drew).alloc (Nat.le_refl _) _) le (Nat.le_refl _) (fun _ => ?_) (fun c o v h => .inl h) (fun _ _ => rfl) (fun k hk => by funext m; simp [Gh.addTC, hk]) rfl
    refine ⟨⟨G, _, _, by simp [Gh.addTC], heap_new w.drew _, ?_, hG2, by omega⟩, fun o _ => hr.noI o, fun m hm => ?_⟩
    · simp [Builtin.zeroCells]
      have hc : (Value.int .i64 0).cells.size = 1 := rfl
      rw [hc]
      omega
    · have : ¬ m = 0 := by omega
      simp [Gh.addTC, this]
      exact (hr.fresh H.length (Nat.le_refl _)).2 m
abbrev listsC (h : List (List Int)) : List AV := avs (slA (AV.int .i64)) h
/-- all numbers of some lists -/
def catI (h : List (List Int)) : List Int := h.flatMap id
theorem catI_next {h : List (List Int)} {i : Nat} (hi : i < h.length) : catI (h.take (i + 1)) = catI (h.take i) ++ h[i] := by
  unfold catI
  rw [take_next hi, List.flatMap_append]
  simp
theorem catI_le {h : List (List Int)} (hs : ∀ l, l ∈ h → l.length ≤ 1000) : (catI h).length ≤ 1000 * h.length := by
  induction h with
  | nil => simp [catI]
  | cons a h ih =>
    have h1 := hs a List.mem_cons_self
    have h2 := ih fun l hl => hs l (List.mem_cons_of_mem _ hl)
    have : catI (a :: h) = a ++ catI h := by simp [catI]
    rw [this, List.length_append, List.length_cons]
    omega
def GrowC (sz : Nat) (H : List HO) (x : AV) (xs : List AV) : Prop := (xs = [] ∧ (x = .sl .nil [] ∨ x = .sl .exact [])) ∨ ∃ t, x = .sl (.tok t) xs ∧ H[t]? = some (.spare xs.length sz)
theorem GrowC.own {sz : Nat} {H : List HO} {x : AV} {xs : List AV} (h : GrowC sz H x xs) : ∃ own, x = .sl own xs := by
  rcases h with ⟨rfl, h | h⟩ | ⟨t, h, _⟩
  · exact ⟨_, h⟩
  · exact ⟨_, h⟩
  · exact ⟨_, h⟩
theorem T_concatC (h : List (List Int)) (hn : h.length ≤ 1000) (hs : ∀ l, l ∈ h → l.length ≤ 1000) : T Tryz.prog 96 [.sl .no (listsC h)] (.sl .no (ints' (catI h))) := by
  have hcl := catI_le hs
  refine T.introF (TS.body mix Tryz.func96 (by kernel_rfl) rfl (by kernel_rfl) (by simp) ?_)
  simp
  refine vc_loop (fun i : Nat => h.length - i) (fun i e H => e 0 = .sl .no (listsC h) ∧ e 3 = .int .i64 (catI (h.take i)).length ∧ e 9 = .sl .no (listsC h) ∧ e 10 = .int .i64 h.length ∧ e 11 = .int .i64 i ∧ i ≤ h.length ∧ H = []) 0 ?_ ?_
  · simp [catI]
  rintro i e H ⟨e0, e3, e9, e10, e11, hi, rfl⟩
  have hci : (catI (h.take i)).length ≤ 1000 * i := by
    have := catI_le (h := h.take i) fun l hl => hs l (List.mem_of_mem_take hl)
    rw [List.length_take] at this
    omega
  by_cases hlt : i < h.length
  · have ew := wrap_next hlt (by omega)
    have hli := hs _ (List.getElem_mem hlt)
    have ec : IntKind.i64.wrap (((catI (h.take i)).length : Int) + (h[i]).length) = ((catI (h.take (i + 1))).length : Int) := by
      rw [wrap_i64 (by omega) (by omega), catI_next hlt, List.length_append]
      simp
    have hneg : ¬ (((catI (h.take (i + 1))).length : Int) < 0) := by omega
    simp [e0, e3, e9, e10, e11, hlt, ec, hneg]
    exact ⟨i + 1, by omega, rfl, ew, by omega⟩
  have hil : i = h.length := by omega
  subst hil
  rw [List.take_length] at e3
  have hgo : ∀ (x : AV) (H0 : List HO), GrowC 1 H0 x (ints' []) → TS Tryz.prog 116 [.sl .nil [], .int .i64 (catI h).length] [] (pt x H0) → True := fun _ _ _ _ => trivial
  obtain ⟨x, H0, hg, hG⟩ : ∃ (x : AV) (H0 : List HO), GrowC 1 H0 x (ints' []) ∧ TS Tryz.prog 116 [.sl .nil [], .int .i64 (catI h).length] [] (pt x H0) := by
    by_cases h0 : (catI h).length = 0
    · rw [h0]; exact ⟨_, _, .inl ⟨rfl, .inl rfl⟩, S_growNoneC []⟩
    · exact ⟨_, _, .inr ⟨0, rfl, rfl⟩, S_growIC [] _ (by omega) (by omega)⟩
  simp [e0, e3, e9, e10, e11]
  refine TS.pt hG ?_
  simp [e0, e3, e9, e10, e11]
  clear e0 e3 e9 e10 e11 hi hlt hG hci hgo
  refine vc_loop (fun i : Nat => h.length - i) (fun i e H => ∃ x, e 6 = x ∧ e 25 = .sl .no (listsC h) ∧ e 26 = .int .i64 h.length ∧ e 27 = .int .i64 i ∧ i ≤ h.length ∧ GrowC 1 H x (ints' (catI (h.take i)))) 0 ?_ ?_
  · refine ⟨x, ?_⟩
    simp [catI]
    exact hg
  clear hg x H0
  rintro i e H ⟨x, e6, e25, e26, e27, hi, hg⟩
  have hci : (catI (h.take i)).length ≤ 1000 * i := by
    have := catI_le (h := h.take i) fun l hl => hs l (List.mem_of_mem_take hl)
    rw [List.length_take] at this
    omega
  by_cases hlt : i < h.length
  · have ew := wrap_next hlt (by omega)
    have hli := hs _ (List.getElem_mem hlt)
    have hnx := catI_next hlt
    rcases hg with ⟨ge, hx⟩ | ⟨t, rfl, ht⟩
    · rw [avs_eq_nil] at ge
      rw [ge, List.nil_append] at hnx
      by_cases hz : (h[i]).length = 0
      · have hz2 : h[i] = [] := List.eq_nil_of_length_eq_zero hz
        rcases hx with rfl | rfl <;> simp [e6, e25, e26, e27, hlt, hz2] <;> exact ⟨i + 1, by omega, ew, by omega, .inl ⟨by rw [hnx, hz2]; rfl, .inr rfl⟩⟩
      · have hz' : ¬ h[i] = [] := fun e => hz (by rw [e]; rfl)
        have hzp : 0 < (h[i]).length := by omega
        rcases hx with rfl | rfl <;> simp [e6, e25, e26, e27, hlt] <;> refine ⟨⟨by omega, by omega⟩, i + 1, by omega, ew, by omega, .inr ⟨H.length, by rw [hnx, ownAt_pos hzp], ?_⟩⟩ <;> rw [hnx] <;> simp [appJ, hz']
    · simp [e6, e25, e26, e27, hlt, ht]
      have htl := (List.getElem?_eq_some_iff.1 ht).1
      refine ⟨⟨by omega, by omega⟩, i + 1, by omega, ew, by omega, .inr ⟨t, by rw [hnx], ?_⟩⟩
      rw [List.getElem?_set_self htl, hnx]
      simp
  · have hil : i = h.length := by omega
    subst hil
    rw [List.take_length] at hg
    obtain ⟨own, rfl⟩ := hg.own
    simp [e6, e25, e26, e27]
    exact Frz.slN (f := AV.int .i64)
theorem T_verticesC (h : List (List Int)) (hn : h.length ≤ 1000) (hs : ∀ l, l ∈ h → l.length ≤ 1000) : T Tryz.prog 57 [.sl .no (listsC h)] (.sl .no (ints' (setI (catI h)))) := by
  have hcl := catI_le hs
  have k1 := T_concatC h hn hs
  have k2 := T_set (catI h) (by omega)
  refine T.intro (TS.body mix Tryz.func57 (by kernel_rfl) rfl (by kernel_rfl) (by simp) ?_)
  simp
  refine TS.callW k1 (Dws.self (by simp)) ?_
  simp
  refine TS.callW k2 (Dws.self (by simp)) ?_
  simp
end Go.Proofs.YtjplcdeaedflpaaGreatDoor.PL
namespace Go.Proofs.YtjplcdeaedflpaaGreatDoor.PL
open Go.Proofs
set_option linter.unusedVariables false
set_option linter.unusedSimpArgs false
def colsJ (a b : Rel) : List Int := setI (a.cols ++ b.cols)
def cellJ (a b : Rel) (x y : List Val) (c : Int) : Val := if c ∈ a.cols then pickF x (idxF a.cols c) else pickF y (idxF b.cols c)
def rowJ (a b : Rel) (x y : List Val) : List Val := (colsJ a b).map (cellJ a b x y)
def rowsJ (a b : Rel) (x : List Val) : List (List Val) := (b.rows.filter fun y => meetB a b x y).map (rowJ a b x)
def joinR (a b : Rel) : Rel := ⟨colsJ a b, a.rows.flatMap (rowsJ a b)⟩
theorem colsJ_len (a b : Rel) : (colsJ a b).length ≤ a.cols.length + b.cols.length := by
  have := setI_len (a.cols ++ b.cols)
  rw [List.length_append] at this
  exact this
theorem rowsJ_len (a b : Rel) (x : List Val) : (rowsJ a b x).length ≤ b.rows.length := by
  unfold rowsJ
  rw [List.length_map]
  exact List.length_filter_le ..
theorem flat_len {a b : Rel} (hb : b.rows.length ≤ 100000) : ∀ l : List (List Val), (l.flatMap (rowsJ a b)).length ≤ l.length * 100000
  | [] => by simp
  | x :: l => by
    have h1 := flat_len (a := a) hb l
    have h2 := rowsJ_len a b x
    rw [List.flatMap_cons, List.length_append, List.length_cons, Nat.add_mul]
    omega
theorem rows_range (r : Rel) : r.rows = (List.range r.rows.length).map fun j => r.rows.getD j [] := by
  apply List.ext_getElem
  · simp
  · intro i h1 h2
    simp
    rw [List.getElem?_eq_getElem h1]
    rfl
theorem rowsJ_hits (a b : Rel) (x : List Val) : rowsJ a b x = (hitsN b (bothR a b) (valsF a.cols x (bothR a b))).map fun j => rowJ a b x (b.rows.getD j []) := by
  unfold rowsJ hitsN
  conv => lhs; rw [rows_range b]
  rw [List.filter_map, List.map_map]
  rfl
theorem flat_next {a b : Rel} {l : List (List Val)} {i : Nat} (h : i < l.length) : (l.take (i + 1)).flatMap (rowsJ a b) = (l.take i).flatMap (rowsJ a b) ++ rowsJ a b l[i] := by
  rw [take_next h, List.flatMap_append]
  simp
theorem hitsN_in {r : Rel} {cs : List Int} {key : List Val} {k : Nat} (h : k < (hitsN r cs key).length) : (hitsN r cs key)[k] < r.rows.length := by
  have := List.getElem_mem h
  unfold hitsN at this
  have := (List.mem_filter.1 this).1
  exact List.mem_range.1 this
abbrev orows (R : List (Own × List Val)) : List AV := avs (oslA Val.av) R
/-- the memory while rows are put together -/
structure JM (a b : Rel) (cs U : List Int) (p6 p7 : Nat) (L : PlL) (R : List (Own × List Val)) (M : List HO) : Prop where
  hp : 6 ≤ p6 ∧ p7 = p6 + 1
  g0 : M[0]? = some (.box a.cs)
  g1 : M[1]? = some (.box b.cs)
  g2 : ∃ c2 : List AV, c2.length = 2 ∧ M[2]? = some (.box c2)
  gm : M[5]? = some (.mp (plA L) (some 0))
  g6 : M[p6]? = some (.box (idxA b cs 5))
  g7 : ∃ x, M[p7]? = some (.box [.sl .no (ints' U), x]) ∧ ((R = [] ∧ (x = .sl .nil [] ∨ x = .sl .exact [])) ∨ ∃ t, x = .sl (.tok t) (orows R) ∧ M[t]? = some (.spare R.length 1))
namespace JM
variable {a b : Rel} {cs U : List Int} {p6 p7 : Nat} {L : PlL} {R : List (Own × List Val)} {M : List HO}
theorem app (h : JM a b cs U p6 p7 L R M) (J : List HO) : JM a b cs U p6 p7 L R (M ++ J) := by
  have e : ∀ {i : Nat} {o : HO}, M[i]? = some o → (M ++ J)[i]? = some o := fun {i o} hi => by rw [List.getElem?_append_left (List.getElem?_eq_some_iff.1 hi).1]; exact hi
  obtain ⟨c2, h2, g2⟩ := h.g2
  obtain ⟨x, g7, hx⟩ := h.g7
  refine ⟨h.hp, e h.g0, e h.g1, ⟨c2, h2, e g2⟩, e h.gm, e h.g6, x, e g7, ?_⟩
  rcases hx with hx | ⟨t, hx, ht⟩
  · exact .inl hx
  · exact .inr ⟨t, hx, e ht⟩
theorem first (h : JM a b cs U p6 p7 L [] M) {r : List Val} {own : Own} {k : Nat} (hk : k = M.length) : JM a b cs U p6 p7 L [(own, r)] ((M ++ [HO.spare 1 1]).set p7 (.box [.sl .no (ints' U), .sl (.tok k) [.sl own (vals' r)]])) := by
  subst hk
  have h1 := h.app [HO.spare 1 1]
  obtain ⟨hp1, hp2⟩ := h.hp
  have hl : p7 < M.length := by obtain ⟨x, g7, _⟩ := h.g7; exact (List.getElem?_eq_some_iff.1 g7).1
  have e : ∀ {i : Nat} (z : HO), i ≠ p7 → ((M ++ [HO.spare 1 1]).set p7 z)[i]? = (M ++ [HO.spare 1 1])[i]? := fun {i} z hi => List.getElem?_set_ne (Ne.symm hi)
  refine ⟨h.hp, ?_, ?_, ?_, ?_, ?_, _, List.getElem?_set_self (by simp; omega), .inr ⟨M.length, by simp [avs], ?_⟩⟩
  · rw [e _ (by omega)]; exact h1.g0
  · rw [e _ (by omega)]; exact h1.g1
  · rw [e _ (by omega)]; exact h1.g2
  · rw [e _ (by omega)]; exact h1.gm
  · rw [e _ (by omega)]; exact h1.g6
  · rw [e _ (by omega)]; simp
theorem more (h : JM a b cs U p6 p7 L R M) {x : AV} {t n : Nat} (g7 : M[p7]? = some (.box [.sl .no (ints' U), x])) (ht : M[t]? = some (.spare R.length 1)) {r : List Val} {own : Own} (hn : n = R.length + 1) : JM a b cs U p6 p7 L (R ++ [(own, r)]) ((M.set t (.spare n 1)).set p7 (.box [.sl .no (ints' U), .sl (.tok t) (orows R ++ [.sl own (vals' r)])])) := by
  subst hn
  obtain ⟨hp1, hp2⟩ := h.hp
  have hl := (List.getElem?_eq_some_iff.1 g7).1
  have htl := (List.getElem?_eq_some_iff.1 ht).1
  have ht7 : p7 ≠ t := by rintro rfl; rw [g7] at ht; cases ht
  have e : ∀ {i : Nat} {o : HO} (z : HO), M[i]? = some o → i ≠ p7 → (∀ n, o ≠ .spare n 1) → ((M.set t (.spare (R.length + 1) 1)).set p7 z)[i]? = some o := fun {i o} z hi h7 ho => by
    have : i ≠ t := by rintro rfl; rw [ht] at hi; exact ho _ (Option.some.inj hi).symm
    rw [List.getElem?_set_ne (Ne.symm h7), List.getElem?_set_ne (Ne.symm this)]
    exact hi
  obtain ⟨c2, h2, g2⟩ := h.g2
  refine ⟨h.hp, e _ h.g0 (by omega) (by simp), e _ h.g1 (by omega) (by simp), ⟨c2, h2, e _ g2 (by omega) (by simp)⟩, e _ h.gm (by omega) (by simp), e _ h.g6 (by omega) (by simp), _, List.getElem?_set_self (by simp; omega), .inr ⟨t, by simp [avs, oslA], ?_⟩⟩
  rw [List.getElem?_set_ne ht7, List.getElem?_set_self htl]
  simp
end JM
set_option maxRecDepth 6000 in
theorem T_sjoin (p q : Rel) (hp : OkR p) (hq : OkR q) (hpc : (bothR (heldR p) (heldR q)).length ≤ 40) : T Tryz.prog 18 [p.av, q.av] (joinR (heldR p) (heldR q)).av := by
  have k1 := T_sheld p hp
  have k2 := T_sheld q hq
  have ha := heldR_ok hp
  have hb := heldR_ok hq
  have har := heldR_right p
  obtain ⟨a, haa⟩ : ∃ a, a = heldR p := ⟨_, rfl⟩
  obtain ⟨b, hbb⟩ : ∃ b, b = heldR q := ⟨_, rfl⟩
  rw [← haa] at k1 ha hpc har ⊢
  rw [← hbb] at k2 hb hpc ⊢
  have hnc := ha.nc
  have hnb := hb.nc
  have hnr := ha.nr
  have hnbr := hb.nr
  have hbl := bothR_len a b
  obtain ⟨cs, hcs⟩ : ∃ cs, cs = bothR a b := ⟨_, rfl⟩
  obtain ⟨U, hU⟩ : ∃ U, U = colsJ a b := ⟨_, rfl⟩
  have hUl : U.length ≤ a.cols.length + b.cols.length := by rw [hU]; exact colsJ_len a b
  have k3 := T_shared a.cols b.cols (by omega) (by omega)
  have k3' : T Tryz.prog 55 [.sl .no (ints' a.cols), .sl .no (ints' b.cols)] (.sl .no (ints' cs)) := by rw [hcs]; exact k3
  have hcl : cs.length ≤ 40 := by rw [hcs]; exact hpc
  have kb := S_build [.box a.cs, .box b.cs, .box [.sl .exact [], .sl .exact []]] b cs hb hcl
  have k4 := T_verticesC [a.cols, b.cols] (by simp) (fun l hl => by simp at hl; rcases hl with rfl | rfl <;> omega)
  have hcat : setI (catI [a.cols, b.cols]) = U := by rw [hU]; simp [catI, colsJ]
  rw [hcat] at k4
  refine T.introF (TS.bodyM [100008, 2000805, 1080500, 1080501] mix Tryz.func18 (by kernel_rfl) rfl (by kernel_rfl) (by simp) ?_)
  simp
  refine TDK.callW k1 (Dws.self (by simp)) ?_
  simp
  refine TDK.callW k2 (Dws.self (by simp)) ?_
  simp
  refine TS.callW k3' (Dws.self (by simp)) ?_
  simp
  refine kb.mono ?_
  rintro x H' ⟨L, rfl, ⟨M, hM, c4, hH⟩, hL⟩
  have hml := hM.len
  obtain ⟨J0, rfl, hm⟩ := hM.out hH
  have hJl : 4 ≤ J0.length := by
    have := congrArg List.length hH
    rw [List.length_set, List.length_append] at this
    simp at this hml
    omega
  clear hM hH hml
  simp at hm
  simp
  refine TS.callW k4 (.cons (.sl (Dws.self (by simp))) .nil) ?_
  simp
  have hJM : JM a b cs U (J0.length + 1 + 1 + 1) (J0.length + 1 + 1 + 1 + 1) L [] (.box a.cs :: .box b.cs :: .box [.sl .exact [], .sl .exact []] :: (J0 ++ [.box (idxA b cs 5), .box [.sl .no (ints' U), .sl .exact []]])) := by
    refine ⟨⟨by omega, rfl⟩, rfl, rfl, ⟨_, rfl, rfl⟩, ?_, ?_, _, ?_, .inl ⟨rfl, .inr rfl⟩⟩
    · simp
      rw [List.getElem?_append_left (List.getElem?_eq_some_iff.1 hm).1]
      exact hm
    · simp
    · simp
  obtain ⟨p6, hp6⟩ : ∃ p6, p6 = J0.length + 1 + 1 + 1 := ⟨_, rfl⟩
  obtain ⟨p7, hp7⟩ : ∃ p7, p7 = J0.length + 1 + 1 + 1 + 1 := ⟨_, rfl⟩
  rw [← hp7, ← hp6] at hJM ⊢
  refine vc_loop (fun i : Nat => a.rows.length - i) (fun i e M => e 2 = .ptr 0 0 ∧ e 3 = .ptr 1 0 ∧ e 4 = .ptr 2 0 ∧ e 5 = .sl .no (ints' cs) ∧ e 6 = .ptr p6 0 ∧ e 7 = .ptr p7 0 ∧ e 36 = .sl .no (rows' a.rows) ∧ e 37 = .int .i64 a.rows.length ∧ e 38 = .int .i64 i ∧ i ≤ a.rows.length ∧ ∃ RL, RL.map Prod.snd = (a.rows.take i).flatMap (rowsJ a b) ∧ JM a b cs U p6 p7 L RL M) 0 ?_ ?_
  · simp
    exact hJM
  clear hJM hm hJl hp6 hp7 J0 c4 kb
  rintro i e M ⟨e2, e3, e4, e5, e6, e7, e36, e37, e38, hi, RL, hRL, hj⟩
  by_cases hlt : i < a.rows.length
  · have ew := wrap_next hlt (by omega)
    have hxm := List.getElem_mem hlt
    have hnx := flat_next (a := a) (b := b) hlt
    have hfl := flat_len (a := a) hnbr (a.rows.take i)
    have hil : (a.rows.take i).length ≤ 100000 := by simp; omega
    have hxr := ha.row _ hxm
    have hxl := rightR_row har hxm
    have hrh := rowsJ_hits a b a.rows[i]
    have hrl := rowsJ_len a b a.rows[i]
    obtain ⟨x, hx⟩ : ∃ x, x = a.rows[i] := ⟨_, rfl⟩
    rw [← hx] at hxm hnx hxr hxl hrh hrl
    have hv := valsF_ok ha hxm cs
    have k5 := T_svalues a x cs hnc hxr.1 (by omega)
    have k6 := S_matches M b cs (valsF a.cols x cs) 5 L hb hcl (by simp [valsF]; omega) hv.1 hv.2 hj.gm hL
    obtain ⟨hs, hhs⟩ : ∃ hs, hs = hitsN b cs (valsF a.cols x cs) := ⟨_, rfl⟩
    have hhl : hs.length ≤ b.rows.length := by rw [hhs]; unfold hitsN; exact Nat.le_trans (List.length_filter_le ..) (by simp)
    have hin : ∀ k (h : k < hs.length), hs[k] < b.rows.length := fun k h => by subst hhs; exact hitsN_in h
    have hhi : hits b cs (valsF a.cols x cs) = hs.map fun j : Nat => (j : Int) := by rw [hhs]; rfl
    rw [← hcs, ← hhs] at hrh
    rw [hhi] at k6
    obtain ⟨rs, hrs⟩ : ∃ rs, rs = hs.map fun j => rowJ a b x (b.rows.getD j []) := ⟨_, rfl⟩
    rw [← hrs] at hrh
    have hrsl : rs.length = hs.length := by rw [hrs, List.length_map]
    have hrsk : ∀ k (h : k < hs.length), rs[k]'(by omega) = rowJ a b x (b.rows[hs[k]]'(hin k h)) := fun k h => by
      subst hrs
      rw [List.getElem_map, List.getD_eq_getElem?_getD, List.getElem?_eq_getElem (hin k h)]
      rfl
    clear hrs
    obtain ⟨R0, hR0⟩ : ∃ R0, R0 = (a.rows.take i).flatMap (rowsJ a b) := ⟨_, rfl⟩
    rw [← hR0] at hRL hnx hfl
    have g0 := hj.g0
    have g1 := hj.g1
    have g6 := hj.g6
    simp [e2, e3, e4, e5, e6, e7, e36, e37, e38, hlt, g0, g6, ← hx]
    refine TDK.callW k5 (Dws.self (by simp)) ?_
    simp [e2, e3, e4, e5, e6, e7, e36, e37, e38, hlt, g0, g6, ← hx]
    refine TWK.call k6 ?_
    simp [e2, e3, e4, e5, e6, e7, e36, e37, e38, hlt, g0, g6, ← hx]
    refine vc_loop (fun k : Nat => hs.length - k) (fun k e M => e 2 = .ptr 0 0 ∧ e 3 = .ptr 1 0 ∧ e 4 = .ptr 2 0 ∧ e 5 = .sl .no (ints' cs) ∧ e 6 = .ptr p6 0 ∧ e 7 = .ptr p7 0 ∧ e 9 = rowA x ∧ e 36 = .sl .no (rows' a.rows) ∧ e 37 = .int .i64 a.rows.length ∧ e 38 = .int .i64 i ∧ e 47 = .sl .no (ints' (hs.map fun j : Nat => (j : Int))) ∧ e 48 = .int .i64 hs.length ∧ e 49 = .int .i64 k ∧ k ≤ hs.length ∧ ∃ RL, RL.map Prod.snd = R0 ++ rs.take k ∧ JM a b cs U p6 p7 L RL M) 0 ?_ ?_
    · simp [e2, e3, e4, e5, e6, e7, e36, e37, e38]
      exact ⟨RL, hRL, hj⟩
    clear g0 g1 g6 k6 hj hRL RL e2 e3 e4 e5 e6 e7 e36 e37 e38 e M
    rintro k e M ⟨e2, e3, e4, e5, e6, e7, e9, e36, e37, e38, e47, e48, e49, hk, RL, hRL, hj⟩
    by_cases hkl : k < hs.length
    · have ewk := wrap_next hkl (by omega)
      have hy := hin k hkl
      have hym := List.getElem_mem hy
      have hyr := hb.row _ hym
      have hnk : rs.take (k + 1) = rs.take k ++ [rowJ a b x b.rows[hs[k]]] := by rw [take_next (by omega), hrsk k hkl]
      obtain ⟨y, hyy⟩ : ∃ y, y = b.rows[hs[k]] := ⟨_, rfl⟩
      rw [← hyy] at hyr hnk hym
      obtain ⟨R, hR⟩ : ∃ R, R = R0 ++ rs.take k := ⟨_, rfl⟩
      have hRn : R0 ++ rs.take (k + 1) = R ++ [rowJ a b x y] := by rw [hnk, hR, List.append_assoc]
      have hRl : R.length ≤ 100000 * 100000 + 100000 := by
        rw [hR, List.length_append, List.length_take]
        omega
      rw [← hR] at hRL
      have hRLl : RL.length = R.length := by rw [← hRL, List.length_map]
      have g0 := hj.g0
      have g1 := hj.g1
      obtain ⟨xx, g7, hxx⟩ := hj.g7
      have hMl := (List.getElem?_eq_some_iff.1 g7).1
      have g0' : ∀ Y : List HO, (M ++ Y)[0]? = some (.box a.cs) := fun Y => (hj.app Y).g0
      have g1' : ∀ Y : List HO, (M ++ Y)[1]? = some (.box b.cs) := fun Y => (hj.app Y).g1
      have g7' : ∀ Y : List HO, (M ++ Y)[p7]? = some (.box [.sl .no (ints' U), xx]) := fun Y => by rw [List.getElem?_append_left hMl]; exact g7
      obtain ⟨cl, hcl2⟩ : ∃ cl, cl = U.map (cellJ a b x y) := ⟨_, rfl⟩
      have hclr : rowJ a b x y = cl := by rw [hcl2, hU]; rfl
      have hcll : cl.length = U.length := by rw [hcl2, List.length_map]
      have hclm : ∀ m (h : m < U.length), cl[m]'(by omega) = cellJ a b x y U[m] := fun m h => by subst hcl2; simp
      clear hcl2
      rw [hclr] at hRn
      obtain ⟨j, hjj⟩ : ∃ j, j = hs[k] := ⟨_, rfl⟩
      have hjb : j < b.rows.length := by omega
      have hyj : b.rows[j] = y := by subst hjj; exact hyy.symm
      simp [e2, e3, e4, e5, e6, e7, e9, e36, e37, e38, e47, e48, e49, hkl, g7, ← hjj]
      refine vc_loop (fun m : Nat => U.length - m) (fun m e H => e 2 = .ptr 0 0 ∧ e 3 = .ptr 1 0 ∧ e 4 = .ptr 2 0 ∧ e 5 = .sl .no (ints' cs) ∧ e 6 = .ptr p6 0 ∧ e 7 = .ptr p7 0 ∧ e 9 = rowA x ∧ e 11 = .int .i64 j ∧ e 36 = .sl .no (rows' a.rows) ∧ e 37 = .int .i64 a.rows.length ∧ e 38 = .int .i64 i ∧ e 47 = .sl .no (ints' (hs.map fun j : Nat => (j : Int))) ∧ e 48 = .int .i64 hs.length ∧ e 49 = .int .i64 k ∧ e 54 = .sl .no (ints' U) ∧ e 55 = .int .i64 U.length ∧ e 56 = .int .i64 m ∧ m ≤ U.length ∧ ∃ J, H = M ++ J ∧ GrowB 3 M J (e 12) (vals' (cl.take m))) 0 ?_ ?_
      · simp [e2, e3, e4, e5, e6, e7, e9, e36, e37, e38, e47, e48, e49]
        exact .nil
      clear e2 e3 e4 e5 e6 e7 e9 e36 e37 e38 e47 e48 e49 e
      rintro m e H ⟨e2, e3, e4, e5, e6, e7, e9, e11, e36, e37, e38, e47, e48, e49, e54, e55, e56, hm, J, rfl, hg⟩
      by_cases hml : m < U.length
      · have ewm := wrap_next hml (by omega)
        have hnm : cl.take (m + 1) = cl.take m ++ [cellJ a b x y U[m]] := by rw [take_next (by omega), hclm m hml]
        have hmt : (cl.take m).length = m := by simp; omega
        have k8 := T_idxF a.cols U[m] (by omega)
        have k9 := T_svalues b y [U[m]] hnb hyr.1 (by simp)
        by_cases hin2 : U[m] ∈ a.cols
        · obtain ⟨ix, hix, _, hie⟩ := idxF_at hin2
          have hixx : ix < x.length := by omega
          have hc : cellJ a b x y U[m] = x[ix] := by unfold cellJ; rw [if_pos hin2, hie, pickF_in hixx]
          rw [hie] at k8
          rw [hc] at hnm
          have h0i : (0 : Int) ≤ ix := by omega
          simp [e2, e3, e4, e5, e6, e7, e9, e11, e36, e37, e38, e47, e48, e49, e54, e55, e56, hml, g0']
          refine TS.callW k8 (Dws.self (by simp)) ?_
          rcases hg with ⟨ge, gx⟩ | ⟨t, gx, ht⟩
          · rw [avs_eq_nil] at ge
            simp [e2, e3, e4, e5, e6, e7, e9, e11, e36, e37, e38, e47, e48, e49, e54, e55, e56, hml, g0', gx, h0i, hixx]
            refine ⟨m + 1, by omega, ewm, by omega, ?_⟩
            rw [hnm]
            exact GrowB.first (f := Val.av) ge rfl
          · have hw := ht
            simp only [avs_length] at hw
            have hw' : (M ++ J)[M.length + t]? = some (.spare (cl.take m).length 3) := by rw [app_atn]; exact hw
            simp [e2, e3, e4, e5, e6, e7, e9, e11, e36, e37, e38, e47, e48, e49, e54, e55, e56, hml, g0', gx, h0i, hixx, hw', app_setn]
            refine ⟨by omega, m + 1, by omega, ewm, by omega, ?_⟩
            rw [hnm]
            exact GrowB.more (f := Val.av) ht (by omega)
        · have hie := idxF_none hin2
          have hc : cellJ a b x y U[m] = pickF y (idxF b.cols U[m]) := by unfold cellJ; rw [if_neg hin2]
          rw [hie] at k8
          have hvs : valsF b.cols y [U[m]] = [cellJ a b x y U[m]] := by rw [hc]; rfl
          rw [hvs] at k9
          simp [e2, e3, e4, e5, e6, e7, e9, e11, e36, e37, e38, e47, e48, e49, e54, e55, e56, hml, g0']
          refine TS.callW k8 (Dws.self (by simp)) ?_
          simp [e2, e3, e4, e5, e6, e7, e9, e11, e36, e37, e38, e47, e48, e49, e54, e55, e56, hml, g0', g1', hjb, hyj]
          refine TDK.callW k9 (.cons (.self (by simp)) (.cons (.self (by simp)) (.cons (.sl (Dws.self (by simp))) .nil))) ?_
          rcases hg with ⟨ge, gx⟩ | ⟨t, gx, ht⟩
          · rw [avs_eq_nil] at ge
            simp [e2, e3, e4, e5, e6, e7, e9, e11, e36, e37, e38, e47, e48, e49, e54, e55, e56, hml, g0', gx]
            refine ⟨m + 1, by omega, ewm, by omega, ?_⟩
            rw [hnm]
            exact GrowB.first (f := Val.av) ge rfl
          · have hw := ht
            simp only [avs_length] at hw
            have hw' : (M ++ J)[M.length + t]? = some (.spare (cl.take m).length 3) := by rw [app_atn]; exact hw
            simp [e2, e3, e4, e5, e6, e7, e9, e11, e36, e37, e38, e47, e48, e49, e54, e55, e56, hml, g0', gx, hw', app_setn]
            refine ⟨by omega, m + 1, by omega, ewm, by omega, ?_⟩
            rw [hnm]
            exact GrowB.more (f := Val.av) ht (by omega)
      · have : m = U.length := by omega
        subst this
        rw [← hcll, List.take_length] at hg
        obtain ⟨own, gx⟩ := hg.own
        have hjj2 := hj.app J
        obtain ⟨Q, hQ⟩ : ∃ Q, Q = M ++ J := ⟨_, rfl⟩
        have gq7 : Q[p7]? = some (.box [.sl .no (ints' U), xx]) := by rw [hQ]; exact g7' J
        have gq7' : ∀ Y : List HO, (Q ++ Y)[p7]? = some (.box [.sl .no (ints' U), xx]) := fun Y => by rw [hQ, List.append_assoc]; exact g7' _
        rw [← hQ] at hjj2 ⊢
        rcases hxx with ⟨h0, hxx⟩ | ⟨t, rfl, ht⟩
        · have ex := GrowX.ex0 hxx
          subst h0
          have hR2 : R = [] := hRL.symm
          rw [hR2] at hRn
          simp [e2, e3, e4, e5, e6, e7, e9, e11, e36, e37, e38, e47, e48, e49, e54, e55, e56, gx, gq7, gq7', ex]
          refine ⟨k + 1, by omega, ewk, by omega, [(own, cl)], ?_, ?_⟩
          · rw [hRn]; rfl
          · exact hjj2.first rfl
        · have hqt : Q[t]? = some (.spare RL.length 1) := by rw [hQ, List.getElem?_append_left (List.getElem?_eq_some_iff.1 ht).1]; exact ht
          have ht7 : t ≠ p7 := by rintro rfl; rw [gq7] at hqt; cases hqt
          have gqs : ∀ z : HO, (Q.set t z)[p7]? = some (.box [.sl .no (ints' U), .sl (.tok t) (orows RL)]) := fun z => by rw [List.getElem?_set_ne ht7]; exact gq7
          simp [e2, e3, e4, e5, e6, e7, e9, e11, e36, e37, e38, e47, e48, e49, e54, e55, e56, gx, gq7, gqs, hqt]
          refine ⟨⟨by omega, by omega⟩, k + 1, by omega, ewk, by omega, RL ++ [(own, cl)], ?_, ?_⟩
          · rw [hRn, List.map_append, hRL]; rfl
          · exact hjj2.more gq7 hqt rfl
    · have : k = hs.length := by omega
      subst this
      rw [← hrsl, List.take_length, ← hrh, ← hnx] at hRL
      simp [e2, e3, e4, e5, e6, e7, e9, e36, e37, e38, e47, e48, e49]
      exact ⟨i + 1, by omega, ew, by omega, RL, hRL, hj⟩
  · have : i = a.rows.length := by omega
    subst this
    rw [List.take_length] at hRL
    obtain ⟨c2, h2, g2⟩ := hj.g2
    obtain ⟨xx, g7, hxx⟩ := hj.g7
    have hxo : ∃ own, xx = .sl own (orows RL) := by
      rcases hxx with ⟨h0, h | h⟩ | ⟨t, h, _⟩
      · rw [h0]; exact ⟨_, h⟩
      · rw [h0]; exact ⟨_, h⟩
      · exact ⟨_, h⟩
    obtain ⟨own, rfl⟩ := hxo
    match c2, h2 with
    | [u0, u1], _ =>
    have gz : ∀ z : HO, (M.set 2 z)[2]? = some z := fun z => List.getElem?_set_self (List.getElem?_eq_some_iff.1 g2).1
    simp [e2, e3, e4, e5, e6, e7, e36, e37, e38, g7, g2, gz]
    rw [hU]
    exact .agg (.cons (Frz.slN (f := AV.int .i64)) (.cons (Frz.slosl hRL) .nil))
end Go.Proofs.YtjplcdeaedflpaaGreatDoor.PL
namespace Go.Proofs.YtjplcdeaedflpaaGreatDoor.PL
open Go.Proofs
set_option linter.unusedVariables false
set_option linter.unusedSimpArgs false
/-- the memory while rows are put together -/
structure JR (a b : Rel) (U : List Int) (R : List (Own × List Val)) (M : List HO) : Prop where
  g0 : M[3]? = some (.box a.cs)
  g1 : M[4]? = some (.box b.cs)
  g2 : ∃ c2 : List AV, c2.length = 2 ∧ M[2]? = some (.box c2)
  g7 : ∃ x, M[7]? = some (.box [.sl .no (ints' U), x]) ∧ ((R = [] ∧ (x = .sl .nil [] ∨ x = .sl .exact [])) ∨ ∃ t, x = .sl (.tok t) (orows R) ∧ M[t]? = some (.spare R.length 1))
namespace JR
variable {a b : Rel} {U : List Int} {R : List (Own × List Val)} {M : List HO}
theorem app (h : JR a b U R M) (J : List HO) : JR a b U R (M ++ J) := by
  have e : ∀ {i : Nat} {o : HO}, M[i]? = some o → (M ++ J)[i]? = some o := fun {i o} hi => by rw [List.getElem?_append_left (List.getElem?_eq_some_iff.1 hi).1]; exact hi
  obtain ⟨c2, h2, g2⟩ := h.g2
  obtain ⟨x, g7, hx⟩ := h.g7
  refine ⟨e h.g0, e h.g1, ⟨c2, h2, e g2⟩, x, e g7, ?_⟩
  rcases hx with hx | ⟨t, hx, ht⟩
  · exact .inl hx
  · exact .inr ⟨t, hx, e ht⟩
theorem first (h : JR a b U [] M) {r : List Val} {own : Own} {k : Nat} (hk : k = M.length) : JR a b U [(own, r)] ((M ++ [HO.spare 1 1]).set 7 (.box [.sl .no (ints' U), .sl (.tok k) [.sl own (vals' r)]])) := by
  subst hk
  have h1 := h.app [HO.spare 1 1]
  have hl : 7 < M.length := by obtain ⟨x, g7, _⟩ := h.g7; exact (List.getElem?_eq_some_iff.1 g7).1
  have e : ∀ {i : Nat} (z : HO), i ≠ 7 → ((M ++ [HO.spare 1 1]).set 7 z)[i]? = (M ++ [HO.spare 1 1])[i]? := fun {i} z hi => List.getElem?_set_ne (Ne.symm hi)
  refine ⟨?_, ?_, ?_, _, List.getElem?_set_self (by simp; omega), .inr ⟨M.length, by simp [avs], ?_⟩⟩
  · rw [e _ (by omega)]; exact h1.g0
  · rw [e _ (by omega)]; exact h1.g1
  · rw [e _ (by omega)]; exact h1.g2
  · rw [e _ (by omega)]; simp
theorem more (h : JR a b U R M) {x : AV} {t n : Nat} (g7 : M[7]? = some (.box [.sl .no (ints' U), x])) (ht : M[t]? = some (.spare R.length 1)) {r : List Val} {own : Own} (hn : n = R.length + 1) : JR a b U (R ++ [(own, r)]) ((M.set t (.spare n 1)).set 7 (.box [.sl .no (ints' U), .sl (.tok t) (orows R ++ [.sl own (vals' r)])])) := by
  subst hn
  have hl := (List.getElem?_eq_some_iff.1 g7).1
  have htl := (List.getElem?_eq_some_iff.1 ht).1
  have ht7 : 7 ≠ t := by rintro rfl; rw [g7] at ht; cases ht
  have e : ∀ {i : Nat} {o : HO} (z : HO), M[i]? = some o → i ≠ 7 → (∀ n, o ≠ .spare n 1) → ((M.set t (.spare (R.length + 1) 1)).set 7 z)[i]? = some o := fun {i o} z hi h7 ho => by
    have : i ≠ t := by rintro rfl; rw [ht] at hi; exact ho _ (Option.some.inj hi).symm
    rw [List.getElem?_set_ne (Ne.symm h7), List.getElem?_set_ne (Ne.symm this)]
    exact hi
  obtain ⟨c2, h2, g2⟩ := h.g2
  refine ⟨e _ h.g0 (by omega) (by simp), e _ h.g1 (by omega) (by simp), ⟨c2, h2, e _ g2 (by omega) (by simp)⟩, _, List.getElem?_set_self (by simp; omega), .inr ⟨t, by simp [avs, oslA], ?_⟩⟩
  rw [List.getElem?_set_ne ht7, List.getElem?_set_self htl]
  simp
end JR
theorem share {G X : Prop} (x : X) (f : X → G) : G := f x
theorem lts_ints (l : List Int) (k : Nat) : AV.lts k (avs (AV.int .i64) l) = true := by
  induction l with
  | nil => rfl
  | cons a l ih => simp [avs, AV.lts, AV.lt]; simpa [avs] using ih
theorem filter_row {a b : Rel} {x : List Val} {k : Nat} (h : k < b.rows.length) : ((b.rows.take (k + 1)).filter fun y => meetB a b x y).map (rowJ a b x) = ((b.rows.take k).filter fun y => meetB a b x y).map (rowJ a b x) ++ if meetB a b x b.rows[k] = true then [rowJ a b x b.rows[k]] else [] := by
  rw [filter_nextR h, List.map_append]
  by_cases hm : meetB a b x b.rows[k] = true
  · rw [if_pos hm, if_pos hm]; rfl
  · rw [if_neg hm, if_neg hm]; rfl
set_option maxRecDepth 6000 in
theorem T_rjoin24 (p q : Rel) (hp : OkR p) (hq : OkR q) : T Tryz.prog 19 [p.av, q.av] (joinR (heldR p) (heldR q)).av := by
  have k1 := T_rheld24 p hp
  have k2 := T_rheld24 q hq
  have ha := heldR_ok hp
  have hb := heldR_ok hq
  have har := heldR_right p
  obtain ⟨a, haa⟩ : ∃ a, a = heldR p := ⟨_, rfl⟩
  obtain ⟨b, hbb⟩ : ∃ b, b = heldR q := ⟨_, rfl⟩
  rw [← haa] at k1 ha har ⊢
  rw [← hbb] at k2 hb ⊢
  have hnc := ha.nc
  have hnb := hb.nc
  have hnr := ha.nr
  have hnbr := hb.nr
  obtain ⟨U, hU⟩ : ∃ U, U = colsJ a b := ⟨_, rfl⟩
  have hUl : U.length ≤ a.cols.length + b.cols.length := by rw [hU]; exact colsJ_len a b
  have k4 := T_rset21 (a.cols ++ b.cols) (by simp; omega)
  have hcat : setI (a.cols ++ b.cols) = U := by rw [hU]; rfl
  rw [hcat] at k4
  refine T.introF (TS.bodyM [300001, 1010600, 1010601, 1010602, 1010603, 1010604, 1010605, 1010700, 1010701, 1010702, 1010703, 1010704, 1010705, 1010706, 300002, 1020300, 1020301, 1020302, 1020600, 1020601, 1020602, 1020603, 1020604, 1020605, 1020703, 1020706, 1020803, 1020806, 1021000, 1021001, 1021002, 1021003, 1021004, 1021005, 1021006, 1021007, 1021008, 1021009, 6000203, 6000206] mix Tryz.func19 (by kernel_rfl) rfl (by kernel_rfl) (by simp) ?_)
  simp
  refine TDK.callW k1 (Dws.self (by simp)) ?_
  simp
  refine TDK.callW k2 (Dws.self (by simp)) ?_
  simp
  have o1 : b.cols.length * 8 ≤ 140737488355328 ∧ b.cols.length ≤ 9223372036854775807 := ⟨by omega, by omega⟩
  have o2 : (a.cols.length + b.cols.length) * 8 ≤ 140737488355328 ∧ a.cols.length + b.cols.length ≤ 9223372036854775807 := ⟨by omega, by omega⟩
  refine ⟨⟨by omega, by omega⟩, ?_⟩
  apply share
  case f =>
    intro body
    refine ⟨fun h1 => ⟨o1, fun h2 => ?_, fun h2 => ⟨fun k => lts_ints _ k, ?_⟩⟩, fun h1 => ⟨fun k => lts_ints _ k, ⟨o2, ?_⟩⟩⟩
    · rw [h1, h2] at k4
      refine TDK.callW k4 (.cons (.sl (Dws.self (by simp))) .nil) ?_
      simp
      refine vc_loop (fun i : Nat => a.rows.length - i) (fun i e M => e 4 = .ptr 2 0 ∧ e 5 = .ptr 3 0 ∧ e 6 = .ptr 4 0 ∧ e 7 = .ptr 7 0 ∧ e 8 = .int .i64 i ∧ i ≤ a.rows.length ∧ ∃ RL : List (Own × List Val), RL.map Prod.snd = (a.rows.take i).flatMap (rowsJ a b) ∧ JR a b U RL M) 0 ?_ body
      simp
      exact ⟨rfl, rfl, ⟨_, rfl, rfl⟩, _, rfl, .inl ⟨rfl, .inr rfl⟩⟩
    · rw [h1] at k4
      refine TDK.callW k4 (.cons (.sl (Dws.self (by simp))) .nil) ?_
      simp
      refine vc_loop (fun i : Nat => a.rows.length - i) (fun i e M => e 4 = .ptr 2 0 ∧ e 5 = .ptr 3 0 ∧ e 6 = .ptr 4 0 ∧ e 7 = .ptr 7 0 ∧ e 8 = .int .i64 i ∧ i ≤ a.rows.length ∧ ∃ RL : List (Own × List Val), RL.map Prod.snd = (a.rows.take i).flatMap (rowsJ a b) ∧ JR a b U RL M) 0 ?_ body
      simp
      exact ⟨rfl, rfl, ⟨_, rfl, rfl⟩, _, rfl, .inl ⟨rfl, .inr rfl⟩⟩
    · refine TDK.callW k4 (.cons (.sl (Dws.self (by simp))) .nil) ?_
      simp
      refine vc_loop (fun i : Nat => a.rows.length - i) (fun i e M => e 4 = .ptr 2 0 ∧ e 5 = .ptr 3 0 ∧ e 6 = .ptr 4 0 ∧ e 7 = .ptr 7 0 ∧ e 8 = .int .i64 i ∧ i ≤ a.rows.length ∧ ∃ RL : List (Own × List Val), RL.map Prod.snd = (a.rows.take i).flatMap (rowsJ a b) ∧ JR a b U RL M) 0 ?_ body
      simp
      exact ⟨rfl, rfl, ⟨_, rfl, rfl⟩, _, rfl, .inl ⟨rfl, .inr rfl⟩⟩
  clear k4 o1 o2 k1 k2 hcat
  rintro i e M ⟨e4, e5, e6, e7, e8, hi, RL, hRL, hj⟩
  by_cases hlt : i < a.rows.length
  · have ew := wrap_next hlt (by omega)
    have hxm := List.getElem_mem hlt
    have hnx := flat_next (a := a) (b := b) hlt
    have hfl := flat_len (a := a) hnbr (a.rows.take i)
    have hil : (a.rows.take i).length ≤ 100000 := by simp; omega
    have hxr := ha.row _ hxm
    have hxl := rightR_row har hxm
    obtain ⟨x, hx⟩ : ∃ x, x = a.rows[i] := ⟨_, rfl⟩
    rw [← hx] at hxm hnx hxr hxl
    obtain ⟨R0, hR0⟩ : ∃ R0, R0 = (a.rows.take i).flatMap (rowsJ a b) := ⟨_, rfl⟩
    rw [← hR0] at hRL hnx hfl
    have g0 := hj.g0
    simp [e4, e5, e6, e7, e8, hlt, g0]
    refine vc_loop (fun k : Nat => b.rows.length - k) (fun k e M => e 4 = .ptr 2 0 ∧ e 5 = .ptr 3 0 ∧ e 6 = .ptr 4 0 ∧ e 7 = .ptr 7 0 ∧ e 8 = .int .i64 i ∧ e 9 = .int .i64 k ∧ k ≤ b.rows.length ∧ ∃ RL : List (Own × List Val), RL.map Prod.snd = R0 ++ ((b.rows.take k).filter fun y => meetB a b x y).map (rowJ a b x) ∧ JR a b U RL M) 0 ?_ ?_
    · simp [e4, e5, e6, e7, e8]
      exact ⟨RL, hRL, hj⟩
    clear g0 hj hRL RL e4 e5 e6 e7 e8 e M
    rintro k e M ⟨e4, e5, e6, e7, e8, e9, hk, RL, hRL, hj⟩
    by_cases hkl : k < b.rows.length
    · have ewk := wrap_next hkl (by omega)
      have hym := List.getElem_mem hkl
      have hyr := hb.row _ hym
      have hnk := filter_row (a := a) (x := x) hkl
      have hpl : (((b.rows.take k).filter fun y => meetB a b x y).map (rowJ a b x)).length ≤ k := by rw [List.length_map]; exact Nat.le_trans (List.length_filter_le ..) (by simp; omega)
      obtain ⟨y, hyy⟩ : ∃ y, y = b.rows[k] := ⟨_, rfl⟩
      have km := T_rmeet a b x y ha hb hxm (by rw [hyy]; exact hym)
      rw [← hyy] at hyr hnk hym
      obtain ⟨R, hR⟩ : ∃ R, R = R0 ++ ((b.rows.take k).filter fun y => meetB a b x y).map (rowJ a b x) := ⟨_, rfl⟩
      have hRl : R.length ≤ 100000 * 100000 + 100000 := by rw [hR, List.length_append]; omega
      rw [← hR] at hRL
      have hRLl : RL.length = R.length := by rw [← hRL, List.length_map]
      have g0 := hj.g0
      have g1 := hj.g1
      obtain ⟨xx, g7, hxx⟩ := hj.g7
      have hMl := (List.getElem?_eq_some_iff.1 g7).1
      simp [e4, e5, e6, e7, e8, e9, hlt, hkl, g0, g1, ← hx, ← hyy]
      refine TDK.callW km (Dws.self (by simp)) ?_
      cases hm : meetB a b x y with
      | false =>
        rw [hm, if_neg (by simp), List.append_nil] at hnk
        simp [e4, e5, e6, e7, e8, e9, hlt, hkl]
        exact ⟨k + 1, by omega, ewk, by omega, RL, by rw [hnk, ← hR]; exact hRL, hj⟩
      | true =>
        rw [hm, if_pos rfl] at hnk
        have hRn : R0 ++ ((b.rows.take (k + 1)).filter fun y => meetB a b x y).map (rowJ a b x) = R ++ [rowJ a b x y] := by rw [hnk, hR, List.append_assoc]
        have g0' : ∀ Y : List HO, (M ++ Y)[3]? = some (.box a.cs) := fun Y => (hj.app Y).g0
        have g1' : ∀ Y : List HO, (M ++ Y)[4]? = some (.box b.cs) := fun Y => (hj.app Y).g1
        have g7' : ∀ Y : List HO, (M ++ Y)[7]? = some (.box [.sl .no (ints' U), xx]) := fun Y => by rw [List.getElem?_append_left hMl]; exact g7
        obtain ⟨cl, hcl2⟩ : ∃ cl, cl = U.map (cellJ a b x y) := ⟨_, rfl⟩
        have hclr : rowJ a b x y = cl := by rw [hcl2, hU]; rfl
        have hcll : cl.length = U.length := by rw [hcl2, List.length_map]
        have hclm : ∀ m (h : m < U.length), cl[m]'(by omega) = cellJ a b x y U[m] := fun m h => by subst hcl2; simp
        clear hcl2
        rw [hclr] at hRn
        simp [e4, e5, e6, e7, e8, e9, hlt, hkl]
        refine vc_loop (fun m : Nat => U.length - m) (fun m e H => e 4 = .ptr 2 0 ∧ e 5 = .ptr 3 0 ∧ e 6 = .ptr 4 0 ∧ e 7 = .ptr 7 0 ∧ e 8 = .int .i64 i ∧ e 9 = .int .i64 k ∧ e 11 = .int .i64 m ∧ m ≤ U.length ∧ ∃ J, H = M ++ J ∧ GrowB 3 M J (e 10) (vals' (cl.take m))) 0 ?_ ?_
        · simp [e4, e5, e6, e7, e8, e9]
          exact .nil
        clear e4 e5 e6 e7 e8 e9 e
        rintro m e H ⟨e4, e5, e6, e7, e8, e9, e11, hm2, J, rfl, hg⟩
        by_cases hml : m < U.length
        · have ewm := wrap_next hml (by omega)
          have hnm : cl.take (m + 1) = cl.take m ++ [cellJ a b x y U[m]] := by rw [take_next (by omega), hclm m hml]
          have hmt : (cl.take m).length = m := by simp; omega
          have k8 := T_has21 a.cols U[m] (by omega)
          simp [e4, e5, e6, e7, e8, e9, e11, hml, g0', g7']
          refine TDK.callW k8 (Dws.self (by simp)) ?_
          by_cases hin2 : U[m] ∈ a.cols
          · have k9 := T_rvalue24 a x U[m] hnc hxr.1
            have hc : cellJ a b x y U[m] = pickF x (idxF a.cols U[m]) := by unfold cellJ; rw [if_pos hin2]
            rw [← hc] at k9
            simp [e4, e5, e6, e7, e8, e9, e11, hml, hin2, g0', g7', hlt, ← hx]
            refine TDK.callW k9 (Dws.self (by simp)) ?_
            rcases hg with ⟨ge, gx⟩ | ⟨t, gx, ht⟩
            · rw [avs_eq_nil] at ge
              simp [e4, e5, e6, e7, e8, e9, e11, hml, gx]
              refine ⟨m + 1, by omega, ewm, by omega, ?_⟩
              rw [hnm]
              exact GrowB.first (f := Val.av) ge rfl
            · have hw := ht
              simp only [avs_length] at hw
              have hw' : (M ++ J)[M.length + t]? = some (.spare (cl.take m).length 3) := by rw [app_atn]; exact hw
              simp [e4, e5, e6, e7, e8, e9, e11, hml, gx, hw', app_setn]
              refine ⟨by omega, m + 1, by omega, ewm, by omega, ?_⟩
              rw [hnm]
              exact GrowB.more (f := Val.av) ht (by omega)
          · have k9 := T_rvalue24 b y U[m] hnb hyr.1
            have hc : cellJ a b x y U[m] = pickF y (idxF b.cols U[m]) := by unfold cellJ; rw [if_neg hin2]
            rw [← hc] at k9
            simp [e4, e5, e6, e7, e8, e9, e11, hml, hin2, g1', g7', hkl, ← hyy]
            refine TDK.callW k9 (Dws.self (by simp)) ?_
            rcases hg with ⟨ge, gx⟩ | ⟨t, gx, ht⟩
            · rw [avs_eq_nil] at ge
              simp [e4, e5, e6, e7, e8, e9, e11, hml, gx]
              refine ⟨m + 1, by omega, ewm, by omega, ?_⟩
              rw [hnm]
              exact GrowB.first (f := Val.av) ge rfl
            · have hw := ht
              simp only [avs_length] at hw
              have hw' : (M ++ J)[M.length + t]? = some (.spare (cl.take m).length 3) := by rw [app_atn]; exact hw
              simp [e4, e5, e6, e7, e8, e9, e11, hml, gx, hw', app_setn]
              refine ⟨by omega, m + 1, by omega, ewm, by omega, ?_⟩
              rw [hnm]
              exact GrowB.more (f := Val.av) ht (by omega)
        · have : m = U.length := by omega
          subst this
          rw [← hcll, List.take_length] at hg
          obtain ⟨own, gx⟩ := hg.own
          have hjj2 := hj.app J
          obtain ⟨Q, hQ⟩ : ∃ Q, Q = M ++ J := ⟨_, rfl⟩
          have gq7 : Q[7]? = some (.box [.sl .no (ints' U), xx]) := by rw [hQ]; exact g7' J
          have gq7' : ∀ Y : List HO, (Q ++ Y)[7]? = some (.box [.sl .no (ints' U), xx]) := fun Y => by rw [hQ, List.append_assoc]; exact g7' _
          rw [← hQ] at hjj2 ⊢
          rcases hxx with ⟨h0, hxx⟩ | ⟨t, rfl, ht⟩
          · have ex := GrowX.ex0 hxx
            subst h0
            have hR2 : R = [] := hRL.symm
            rw [hR2] at hRn
            simp [e4, e5, e6, e7, e8, e9, e11, gx, gq7, gq7', ex]
            refine ⟨k + 1, by omega, ewk, by omega, [(own, cl)], ?_, ?_⟩
            · rw [hRn]; rfl
            · exact hjj2.first rfl
          · have hqt : Q[t]? = some (.spare RL.length 1) := by rw [hQ, List.getElem?_append_left (List.getElem?_eq_some_iff.1 ht).1]; exact ht
            have ht7 : t ≠ 7 := by rintro rfl; rw [gq7] at hqt; cases hqt
            have gqs : ∀ z : HO, (Q.set t z)[7]? = some (.box [.sl .no (ints' U), .sl (.tok t) (orows RL)]) := fun z => by rw [List.getElem?_set_ne ht7]; exact gq7
            simp [e4, e5, e6, e7, e8, e9, e11, gx, gq7, gqs, hqt]
            refine ⟨⟨by omega, by omega⟩, k + 1, by omega, ewk, by omega, RL ++ [(own, cl)], ?_, ?_⟩
            · rw [hRn, List.map_append, hRL]; rfl
            · exact hjj2.more gq7 hqt rfl
    · have : k = b.rows.length := by omega
      subst this
      rw [List.take_length] at hRL
      have hnx2 : R0 ++ (b.rows.filter fun y => meetB a b x y).map (rowJ a b x) = (a.rows.take (i + 1)).flatMap (rowsJ a b) := hnx.symm
      rw [hnx2] at hRL
      have g1 := hj.g1
      simp [e4, e5, e6, e7, e8, e9, g1]
      exact ⟨i + 1, by omega, ew, by omega, RL, hRL, hj⟩
  · have : i = a.rows.length := by omega
    subst this
    rw [List.take_length] at hRL
    obtain ⟨c2, h2, g2⟩ := hj.g2
    obtain ⟨xx, g7, hxx⟩ := hj.g7
    have g0 := hj.g0
    have hxo : ∃ own, xx = .sl own (orows RL) := by
      rcases hxx with ⟨h0, h | h⟩ | ⟨t, h, _⟩
      · rw [h0]; exact ⟨_, h⟩
      · rw [h0]; exact ⟨_, h⟩
      · exact ⟨_, h⟩
    obtain ⟨own, rfl⟩ := hxo
    match c2, h2 with
    | [u0, u1], _ =>
    have gz : ∀ z : HO, (M.set 2 z)[2]? = some z := fun z => List.getElem?_set_self (List.getElem?_eq_some_iff.1 g2).1
    simp [e4, e5, e6, e7, e8, g0, g7, g2, gz]
    rw [hU]
    exact .agg (.cons (Frz.slN (f := AV.int .i64)) (.cons (Frz.slosl hRL) .nil))
end Go.Proofs.YtjplcdeaedflpaaGreatDoor.PL
