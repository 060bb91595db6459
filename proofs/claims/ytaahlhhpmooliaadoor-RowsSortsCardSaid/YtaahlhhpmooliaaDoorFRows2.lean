/- RowsParts. -/
import Derived.Test.YtaahlhhpmooliaaDoorFRows
import Derived.Test.YtaahlhhpmooliaaDoorFFind4
namespace Go.Proofs.YtaahlhhpmooliaaDoor.PL
open Go.Proofs
set_option linter.unusedVariables false
set_option linter.unusedSimpArgs false
def zV4 : Val := ⟨0, 0, ByteArray.empty⟩
def nuls (n : Nat) : List Val := List.replicate n zV4
def nulN (k : Int) : Nat := (min (max k 0) 65536).toNat
theorem nuls_flat (n : Nat) : (vals' (nuls n)).flatMap AV.cells = repeatA [.int .i64 0, .int .i64 0, .str ByteArray.empty] n := by
  induction n with
  | zero => rfl
  | succ n ih =>
    have e : vals' (nuls (n + 1)) = Val.av zV4 :: vals' (nuls n) := by unfold nuls; rw [List.replicate_succ]; rfl
    rw [e, List.flatMap_cons, ih, repeatA]
    rfl
theorem S_nulls (H : List HO) (k : Int) : TS Tryd.prog 21 [.int .i64 k] H (pt (.mv H.length (nulN k) 3 0 (nulN k)) (H ++ [.row (nulN k) 3 ((vals' (nuls (nulN k))).flatMap AV.cells)])) := by
  have e : (if 65536 < if k < 0 then 0 else k then 65536 else if k < 0 then 0 else k) = (nulN k : Int) := by
    unfold nulN
    split <;> split <;> omega
  have hb : nulN k ≤ 65536 := by unfold nulN; omega
  refine TS.body mix Tryd.func21 (by kernel_rfl) rfl (by kernel_rfl) (by simp) ?_
  simp
  rw [e, nuls_flat]
  simp
  omega
theorem T_nulls4 (k : Int) : T Tryd.prog 21 [.int .i64 k] (rowA (nuls (nulN k))) := by
  refine T.introF ((S_nulls [] k).mono ?_)
  rintro _ _ ⟨rfl, rfl⟩
  exact Frz.mvA (f := Val.av) (sz := 3) (l := nuls (nulN k)) (by simp) (by simp [nuls])
def pickF (r : List Val) (p : Int) : Val := if 0 ≤ p ∧ p < r.length then r.getD p.toNat zV4 else zV4
theorem pickF_in {r : List Val} {k : Nat} (h : k < r.length) : pickF r k = r[k] := by
  unfold pickF
  rw [if_pos (by omega)]
  simp [h]
theorem pickF_out {r : List Val} {p : Int} (h : ¬ (0 ≤ p ∧ p < r.length)) : pickF r p = zV4 := if_neg h
theorem T_pick4 (r : List Val) (ps : List Int) (hr : r.length < 4611686018427387904) (hp : ps.length ≤ 1000) : T Tryd.prog 19 [rowA r, .sl .no (ints' ps)] (rowA (ps.map (pickF r))) := by
  have k0 := S_nulls [] (ps.length : Int)
  have hN : nulN (ps.length : Int) = ps.length := by unfold nulN; omega
  rw [hN] at k0
  refine T.introF (TS.body mix Tryd.func19 (by kernel_rfl) rfl (by kernel_rfl) (by simp) ?_)
  simp
  refine TS.pt k0 ?_
  simp
  refine vc_loop (fun i : Nat => ps.length - i) (fun i e H => e 0 = rowA r ∧ e 5 = .mv 0 ps.length 3 0 ps.length ∧ e 11 = .sl .no (ints' ps) ∧ e 12 = .int .i64 ps.length ∧ e 13 = .int .i64 i ∧ i ≤ ps.length ∧ ∃ M : List Val, M = (ps.map (pickF r)).take i ++ nuls (ps.length - i) ∧ H = [.row ps.length 3 ((vals' M).flatMap AV.cells)]) 0 ?_ ?_
  · simp
  rintro i e H ⟨e0, e5, e11, e12, e13, hi, M, hM, rfl⟩
  by_cases hlt : i < ps.length
  · have ew := wrap_next hlt (by omega)
    have hMl : M.length = ps.length := by rw [hM]; simp [nuls]; omega
    have hMi : i < M.length := by omega
    have htl : ((ps.map (pickF r)).take i).length = i := by simp; omega
    have hnz : nuls (ps.length - i) = zV4 :: nuls (ps.length - (i + 1)) := by
      unfold nuls
      rw [show ps.length - i = (ps.length - (i + 1)) + 1 by omega, List.replicate_succ]
    rw [hnz] at hM
    have hat : M[i] = zV4 := by
      subst hM
      rw [List.getElem_append_right (by omega)]
      simp [htl]
    have hnx : M.set i (pickF r ps[i]) = (ps.map (pickF r)).take (i + 1) ++ nuls (ps.length - (i + 1)) := by
      rw [hM, List.set_append, if_neg (by omega), htl, Nat.sub_self, List.set_cons_zero, take_next (by simpa using hlt), List.append_assoc]
      simp
    have hml := flatA_len (f := Val.av) (sz := 3) M
    rw [List.length_flatMap] at hml
    by_cases hin : 0 ≤ ps[i] ∧ ps[i] < r.length
    · obtain ⟨k, hk, ek⟩ : ∃ k : Nat, k < r.length ∧ ps[i] = k := ⟨ps[i].toNat, by omega, by omega⟩
      have hput := flatA_put (f := Val.av) M hMi (k := 0) (new := (r[k]).av.cells) (a := r[k]) (by simp) (by simp)
      rw [ek, pickF_in hk] at hnx
      rw [hnx] at hput
      have h0k : (0 : Int) ≤ k := by omega
      simp at hput
      simp [e0, e5, e11, e12, e13, hlt, ek, hk, h0k]
      exact ⟨by rw [hml]; omega, i + 1, by omega, ew, by omega, hput⟩
    · rw [pickF_out hin] at hnx
      have hsame : M.set i zV4 = M := by rw [← hat]; exact List.set_getElem_self hMi
      rw [hsame] at hnx
      simp [e0, e5, e11, e12, e13, hlt]
      refine condK_of (fun h => absurd (by simpa using h) hin) (fun h => ?_)
      simp [e0, e5, e11, e12, e13, hlt]
      exact ⟨i + 1, by omega, ew, by omega, by rw [hnx]⟩
  · have hil : i = ps.length := by omega
    subst hil
    have hM2 : M = ps.map (pickF r) := by rw [hM, List.take_of_length_le (by simp)]; simp [nuls]
    rw [hM2]
    simp [e0, e5, e11, e12, e13]
    exact Frz.mvA (f := Val.av) (sz := 3) rfl (by simp)
theorem T_small1 (n : Int) (h : n = 1 ∨ n = 2) : T Tryd.prog 81 [.int .i64 n] (.str (if n = 1 then ⟨#[49]⟩ else ⟨#[50]⟩)) := by
  refine T.intro (TS.body mix Tryd.func81 (by kernel_rfl) rfl (by kernel_rfl) (by simp) ?_)
  rcases h with rfl | rfl
  · simp
    exact ⟨by decide, by decide +kernel⟩
  · simp
    exact ⟨by decide, by decide +kernel⟩
theorem T_fmt1 (n : Int) (h : n = 1 ∨ n = 2) : T Tryd.prog 73 [.int .i64 n, .int .i64 10] (.str (if n = 1 then ⟨#[49]⟩ else ⟨#[50]⟩)) := by
  have k := T_small1 n h
  refine T.intro (TS.body mix Tryd.func73 (by kernel_rfl) rfl (by kernel_rfl) (by simp) ?_)
  have h0 : 0 ≤ n := by omega
  have h1 : n < 100 := by omega
  simp [h0, h1]
  refine TS.callW k (Dws.self (by simp)) ?_
  simp
theorem T_itoaI (n : Int) (h : n = 1 ∨ n = 2) : T Tryd.prog 61 [.int .i64 n] (.str (if n = 1 then ⟨#[49]⟩ else ⟨#[50]⟩)) := by
  have k := T_fmt1 n h
  refine T.intro (TS.body mix Tryd.func61 (by kernel_rfl) rfl (by kernel_rfl) (by simp) ?_)
  simp
  refine TS.callW k (Dws.self (by simp)) ?_
  simp
theorem T_itoa1 (n : Int) (h : n = 1 ∨ n = 2) : T Tryd.prog 44 [.int .i64 n] (.str (if n = 1 then ⟨#[49]⟩ else ⟨#[50]⟩)) := by
  have k := T_itoaI n h
  refine T.intro (TS.body mix Tryd.func44 (by kernel_rfl) rfl (by kernel_rfl) (by simp) ?_)
  simp
  refine TS.callW k (Dws.self (by simp)) ?_
  simp
theorem T_keyLive : T Tryd.prog 23 [rowA [zV4, ⟨2, 0, ⟨#[97]⟩⟩]] (.str ⟨#[49, 58, 110, 50, 58, 116, 97]⟩) := by
  have k1 := T_key zV4 (by decide) (by decide) (by decide)
  have k2 := T_key ⟨2, 0, ⟨#[97]⟩⟩ (by decide) (by decide) (by decide)
  have i1 := T_itoa1 1 (.inl rfl)
  have i2 := T_itoa1 2 (.inr rfl)
  have e1 : keyV zV4 = ⟨#[110]⟩ := by decide +kernel
  have e2 : keyV ⟨2, 0, ⟨#[97]⟩⟩ = ⟨#[116, 97]⟩ := by decide +kernel
  rw [e1] at k1
  rw [e2] at k2
  refine T.intro (TS.body mix Tryd.func23 (by kernel_rfl) rfl (by kernel_rfl) (by simp) ?_)
  simp
  refine vc_rnds 2 ?_
  simp
  refine TS.callW k1 (Dws.self (by simp)) ?_
  simp
  refine TS.callW i1 (Dws.self (by simp)) ?_
  simp
  refine ⟨by decide, by decide, rnds.next ?_⟩
  simp
  refine TS.callW k2 (Dws.self (by simp)) ?_
  simp
  refine TS.callW i2 (Dws.self (by simp)) ?_
  simp
  refine ⟨by decide, by decide, by decide, rnds.next ?_⟩
  simp
  decide +kernel
theorem T_live04 : T Tryd.prog 14 [] (.bool true) := by
  have k := T_keyLive
  refine T.intro (TS.body mix Tryd.func14 (by kernel_rfl) rfl (by kernel_rfl) (by simp) ?_)
  simp
  refine TS.callW k (by repeat (first | exact .self rfl | constructor)) ?_
  simp
theorem T_joinV (h : List (List Val)) (hn : h.length ≤ 1000) (hs : ∀ l, l ∈ h → l.length ≤ 1000) : T Tryd.prog 22 [.sl .no (rows' h)] (.sl .no (vals' (catV h))) := by
  have k := T_concatV h hn hs
  refine T.intro (TS.body mix Tryd.func22 (by kernel_rfl) rfl (by kernel_rfl) (by simp) ?_)
  simp
  refine TS.callW k (Dws.self (by simp)) ?_
  simp
theorem T_rpick4 (r : List Val) (ps : List Int) (hr : r.length < 4611686018427387904) (hp : ps.length ≤ 1000) : T Tryd.prog 20 [rowA r, .sl .no (ints' ps)] (rowA (ps.map (pickF r))) := by
  refine T.introF (TS.body mix Tryd.func20 (by kernel_rfl) rfl (by kernel_rfl) (by simp) ?_)
  simp
  refine vc_loop (fun i : Nat => ps.length - i) (fun i e H => ∃ x, e 0 = rowA r ∧ e 1 = .sl .no (ints' ps) ∧ e 5 = x ∧ e 6 = .int .i64 i ∧ i ≤ ps.length ∧ Grow1 3 H x (vals' ((ps.map (pickF r)).take i))) 0 ?_ ?_
  · refine ⟨.sl .nil [], ?_⟩
    simp [Grow1]
  rintro i e H ⟨x, e0, e1, e5, e6, hi, hg⟩
  by_cases hlt : i < ps.length
  · have ew := wrap_next hlt (by omega)
    have hnx : (ps.map (pickF r)).take (i + 1) = (ps.map (pickF r)).take i ++ [pickF r ps[i]] := by rw [take_next (by simpa using hlt)]; simp
    have hln : ((ps.map (pickF r)).take i).length = i := by simp; omega
    have hmi : min i ps.length = i := by omega
    have hz : pickF r ps[i] = zV4 ∨ True := .inr trivial
    by_cases hin : 0 ≤ ps[i] ∧ ps[i] < r.length
    · obtain ⟨k, hk, ek⟩ : ∃ k : Nat, k < r.length ∧ ps[i] = k := ⟨ps[i].toNat, by omega, by omega⟩
      rw [ek, pickF_in hk] at hnx
      have h0k : (0 : Int) ≤ k := by omega
      rcases hg with ⟨ge, rfl⟩ | ⟨t, rfl, ht⟩
      · rw [avs_eq_nil] at ge
        rw [ge] at hnx
        simp [e0, e1, e5, e6, hlt, ek, hk, h0k]
        exact ⟨i + 1, by omega, ew, by omega, .inr ⟨H.length + 1, by rw [hnx]; rfl, by rw [hnx]; simp⟩⟩
      · have htl := (List.getElem?_eq_some_iff.1 ht).1
        have ht' : ∀ Y : List HO, (H ++ Y)[t]? = some (.spare i 3) := fun Y => by rw [List.getElem?_append_left htl, ht, avs_length, hln]
        simp [e0, e1, e5, e6, hlt, ek, hk, h0k, ht', hmi]
        refine ⟨⟨by omega, by omega⟩, i + 1, by omega, ew, by omega, .inr ⟨t, by rw [hnx], ?_⟩⟩
        rw [List.getElem?_set_self (by simp; omega), hnx]
        simp [hmi]
    · rw [pickF_out hin] at hnx
      rcases hg with ⟨ge, rfl⟩ | ⟨t, rfl, ht⟩
      · rw [avs_eq_nil] at ge
        rw [ge] at hnx
        simp [e0, e1, e5, e6, hlt]
        refine condK_of (fun h => absurd (by simpa using h) hin) (fun h => ?_)
        simp [e0, e1, e5, e6, hlt]
        exact ⟨i + 1, by omega, ew, by omega, .inr ⟨H.length + 1, by rw [hnx]; rfl, by rw [hnx]; simp⟩⟩
      · have htl := (List.getElem?_eq_some_iff.1 ht).1
        have ht' : ∀ Y : List HO, (H ++ Y)[t]? = some (.spare i 3) := fun Y => by rw [List.getElem?_append_left htl, ht, avs_length, hln]
        simp [e0, e1, e5, e6, hlt]
        refine condK_of (fun h => absurd (by simpa using h) hin) (fun h => ?_)
        simp [e0, e1, e5, e6, hlt, ht', hmi]
        refine ⟨⟨by omega, by omega⟩, i + 1, by omega, ew, by omega, .inr ⟨t, by rw [hnx]; simp [avs, zV4], ?_⟩⟩
        rw [List.getElem?_set_self (by simp; omega), hnx]
        simp [hmi]
  · have hil : i = ps.length := by omega
    subst hil
    rw [List.take_of_length_le (by simp)] at hg
    obtain ⟨own, rfl⟩ := hg.own
    simp [e0, e1, e5, e6]
    exact Frz.slN (f := Val.av)
theorem T_RowsParts (l : List (List Val)) (i : Int) (a b : List Val) (ps : List Int) (n : Int) (hl : l.length < 4611686018427387904) (hv : ∀ r, r ∈ l → ∀ v, v ∈ r → v.s.size ≤ reachBytes) (ha : ∀ v, v ∈ a → v.s.size ≤ reachBytes) (hb : ∀ v, v ∈ b → v.s.size ≤ reachBytes) (hps : ps.length < 4611686018427387904) (hn : -32768 ≤ n ∧ n < 32768) : T Tryd.prog 4 [.sl .no (rows' l), .int .i64 i, rowA a, rowA b, .sl .no (ints' ps), .int .i16 n] (.bool true) := by
  have m1 := T_much l hl hv
  have m2 := T_much [a, b] (by simp) (by simp; exact ⟨ha, hb⟩)
  refine T.intro (TS.body mix Tryd.func4 (by kernel_rfl) rfl (by kernel_rfl) (by simp) ?_)
  simp
  refine TS.callW m1 (Dws.self (by simp)) ?_
  cases e1 : much l with
  | true =>
    simp
    refine GTK.callW (fun h => nomatch h) (ys := []) (r := .bool true) ?_
    simp
    refine TS.callW T_live04 .nil ?_
    simp
  | false =>
  simp
  refine GTK.callW (fun _ => ⟨m2, by repeat (first | exact .self (by simp [AV.pl, AV.pls]) | exact .nil | constructor)⟩) ?_
  cases e2 : much [a, b] with
  | true =>
    simp
    refine TS.callW T_live04 .nil ?_
    simp
  | false =>
  by_cases h50 : (50 : Int) < ps.length
  · simp [h50]
    refine TS.callW T_live04 .nil ?_
    simp
  obtain ⟨hl50, hlr⟩ := much_no e1
  obtain ⟨_, hab⟩ := much_no e2
  have k1 : T Tryd.prog 15 [.sl .no (rows' l), .int .i64 i] (.sl .no (rows' (dropI l i))) := T_rwithout04 l i (by omega)
  have k2 := T_rowsWithout l i (by omega)
  have hdl := dropI_len l i
  have hdm : (dropI l i).length ≤ 51 := by
    have : ((dropI l i).length : Int) ≤ 51 := by rw [hdl]; split <;> omega
    omega
  have hra : ∀ r, r ∈ l → r.length < 4611686018427387904 := fun r hr => by have := (hlr r hr).1; omega
  have k3 := T_sameList04 (dropI l i) (by omega) (fun r hr => hra r (dropI_sub l i _ r hr))
  have k3b := T_sameList04 l (by omega) hra
  have hal : a.length ≤ 40 := (hab a (by simp)).1
  have hbl : b.length ≤ 40 := (hab b (by simp)).1
  have k4 := T_pick4 a ps (by omega) (by omega)
  have k5 := T_rpick4 a ps (by omega) (by omega)
  have k6 := T_same04 (ps.map (pickF a)) (by rw [List.length_map]; omega)
  simp [h50]
  refine TS.callW k1 (Dws.self (by simp)) ?_
  simp
  refine ⟨⟨by omega, by omega⟩, ?_⟩
  refine TS.callW k2 (.cons (.sl (Dws.self (by simp))) (.cons (.self (by simp)) .nil)) ?_
  simp
  refine TS.callW k3 (Dws.self (by simp)) ?_
  simp
  refine GTK.callW (fun _ => ⟨k3b, .cons (.sl (Dws.self (by simp))) (.cons (.self (by simp)) .nil)⟩) ?_
  simp
  refine GTK.callW (fun _ => ⟨k4, Dws.self (by simp)⟩) ?_
  simp
  refine GTK.callW (fun _ => ⟨k5, Dws.self (by simp)⟩) ?_
  simp
  refine GTK.callW (fun _ => ⟨k6, Dws.self (by simp)⟩) ?_
  simp
  have k7 := T_nulls4 n
  have hNn : nulN n = (max n 0).toNat := by unfold nulN; omega
  have hw : IntKind.i64.wrap n = n := wrap_i64 (by omega) (by omega)
  rw [hw]
  refine TS.callW k7 (Dws.self (by simp)) ?_
  simp
  rw [hw]
  have hkN : (if n < 0 then (0 : Int) else n) = (nulN n : Int) := by rw [hNn]; split <;> omega
  have hlen : (nuls (nulN n)).length = nulN n := by simp [nuls]
  have hz4 : ∀ j (h : j < (nuls (nulN n)).length), (nuls (nulN n))[j] = zV4 := fun j h => by simp [nuls]
  have k8 := T_joinV [a, b, []] (by simp) (by simp; omega)
  have hcat : catV [a, b, []] = a ++ b := by simp [catV]
  rw [hcat] at k8
  have k9 := T_same04 (a ++ b) (by rw [List.length_append]; omega)
  have hb16 : nulN n ≤ 65536 := by unfold nulN; omega
  have fin : ∀ (e : Env) (H : List HO), True := fun _ _ => trivial
  refine condK_of (fun q => ?_) (fun q => ?_)
  all_goals
    simp at q
    simp
    refine vc_loop (fun j : Nat => nulN n - j) (fun j e H => e 2 = rowA a ∧ e 3 = rowA b ∧ e 15 = rowA (nuls (nulN n)) ∧ e 16 = .int .i64 (nulN n) ∧ e 17 = .int .i64 j ∧ j ≤ nulN n) 0 ?_ ?_
    · simp
      omega
    rintro j e H ⟨h2, h3, h15, h16, h17, hj⟩
    by_cases hlt : j < nulN n
    · have ejw := wrap_next hlt (by omega)
      have hjl : j < (nuls (nulN n)).length := by omega
      have hz := hz4 j hjl
      have z1 : zV4.k = 0 := rfl
      have z2 : zV4.i = 0 := rfl
      have z3 : zV4.s = ByteArray.empty := rfl
      simp [h2, h3, h15, h16, h17, hlen, hlt, hjl, hz, z1, z2, z3]
      exact ⟨j + 1, by omega, ejw, by omega⟩
    · have : j = nulN n := by omega
      subst this
      simp [h2, h3, h15, h16, h17, hlen]
      refine GTK.callW (fun _ => ⟨k8, by repeat (first | exact .self (by simp [AV.pl, AV.pls]) | exact .nil | constructor)⟩) ?_
      simp [h2, h3, h15, h16, h17, hlen]
      refine ⟨⟨by omega, by omega⟩, ⟨by omega, by omega⟩, ?_⟩
      refine GTK.callW (fun _ => ⟨k9, .cons (.self (by simp)) (.cons (.sl (Dws.self (by simp))) .nil)⟩) ?_
      simp [h2, h3, h15, h16, h17, hlen]
      refine GTK.callW (fun _ => ⟨T_live04, .nil⟩) ?_
      simp
theorem i16_wf {n : Int} (h : (Lit.int .i16 n).wf = true) : -32768 ≤ n ∧ n < 32768 := by
  simp [Lit.wf, IntKind.min, IntKind.max, IntKind.signed, IntKind.bits] at h
  omega
theorem rowsV_in {cs : List AV} (h : Sh Tryd.prog 35 cs) : ∃ l : List (List Val), cs = [.sl .no (rows' l)] ∧ l.length < 4611686018427387904 ∧ ∀ r, r ∈ l → ∀ v, v ∈ r → v.s.size ≤ reachBytes := by
  obtain ⟨ys, rfl, hy, b⟩ := h.sl_of un_35 ag_40
  obtain ⟨l, e1, e2, e3⟩ := list_in (f := fun r => AV.sl .no (vals' r)) (g := mkAV false) (Q := fun r => ∀ v, v ∈ r → v.s.size ≤ reachBytes) (fun y hy' => by
    obtain ⟨x, h1, h2, h3⟩ := vals_in (hy y hy')
    exact ⟨x, by rw [h1]; rfl, fun v hv => (h2 v hv).2.2⟩)
  have hb : 1 ≤ Tryd.prog.bytesOf 40 := by decide +kernel
  have hr := reach_lt
  have := Nat.mul_le_mul_left ys.length hb
  exact ⟨l, by rw [e1]; rfl, by omega, e3⟩
theorem ints4_in {cs : List AV} (h : Sh Tryd.prog 38 cs) : ∃ l : List Int, cs = [.sl .no (ints' l)] ∧ l.length < 4611686018427387904 := by
  obtain ⟨ys, rfl, hy, b⟩ := h.sl_of un_38 ag_3
  obtain ⟨l, e, el, hl⟩ := list_in (f := AV.int .i64) (g := mkAV false) (Q := fun _ => True) (fun y hy' => by
    obtain ⟨n, rfl, hn⟩ := (hy y hy').int_of un_3
    exact ⟨n, rfl, trivial⟩)
  have hb : 1 ≤ Tryd.prog.bytesOf 3 := by decide +kernel
  have hr := reach_lt
  have := Nat.mul_le_mul_left ys.length hb
  exact ⟨l, by rw [e]; rfl, by omega⟩
theorem S_RowsParts {xs : List AV} (h : ShA Tryd.prog [35, 3, 40, 40, 38, 41] xs) : T Tryd.prog 4 xs (.bool true) := by
  obtain ⟨y, r, rfl, h0, h⟩ := h.cons_of ag_35
  obtain ⟨y, r, rfl, h1, h⟩ := h.cons_of ag_3
  obtain ⟨y, r, rfl, h2, h⟩ := h.cons_of ag_40
  obtain ⟨y, r, rfl, h3, h⟩ := h.cons_of ag_40
  obtain ⟨y, r, rfl, h4, h⟩ := h.cons_of ag_38
  obtain ⟨y, r, rfl, h5, h⟩ := h.cons_of ag_41
  obtain rfl := h.nil_of
  obtain ⟨l, rfl, hl, hv⟩ := rowsV_in h0
  obtain ⟨i, rfl, _⟩ := h1.int_of un_3
  obtain ⟨a, rfl, ha, _⟩ := vals_in h2
  obtain ⟨b, rfl, hb, _⟩ := vals_in h3
  obtain ⟨ps, rfl, hps⟩ := ints4_in h4
  obtain ⟨n, rfl, hn⟩ := h5.int_of un_41
  have hn2 : -32768 ≤ n ∧ n < 32768 := i16_wf hn
  exact T_RowsParts l i a b ps n hl hv (fun v hv => (ha v hv).2.2) (fun v hv => (hb v hv).2.2) hps hn2
end Go.Proofs.YtaahlhhpmooliaaDoor.PL
