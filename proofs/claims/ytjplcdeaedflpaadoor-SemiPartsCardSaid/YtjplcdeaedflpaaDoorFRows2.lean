/- RowsParts. -/
import Derived.Test.YtjplcdeaedflpaaDoorFRows
import Derived.Test.YtjplcdeaedflpaaDoorFFind4
namespace Go.Proofs.YtjplcdeaedflpaaDoor.PL
open Go.Proofs
set_option linter.unusedVariables false
set_option linter.unusedSimpArgs false
def zV4 : Val := ⟨0, 0, ByteArray.empty⟩
def nuls (n : Nat) : List Val := List.replicate n zV4
def nulN (k : Int) : Nat := (min (max k 0) 65536).toNat
theorem nuls_flat (n : Nat) : (vals' (nuls n)).flatMap AV.cells = repeatA [.int .i64 0, .int .i64 0, .str ByteArray.empty] n := by
  induction n with
  | zero => rfl
  | succ n ih =>
    have e : vals' (nuls (n + 1)) = Val.av zV4 :: vals' (nuls n) := by unfold nuls; rw [List.replicate_succ]; rfl
    rw [e, List.flatMap_cons, ih, repeatA]
    rfl
theorem S_nulls (H : List HO) (k : Int) : TS Tryd.prog 56 [.int .i64 k] H (pt (.mv H.length (nulN k) 3 0 (nulN k)) (H ++ [.row (nulN k) 3 ((vals' (nuls (nulN k))).flatMap AV.cells)])) := by
  have e : (if 65536 < if k < 0 then 0 else k then 65536 else if k < 0 then 0 else k) = (nulN k : Int) := by
    unfold nulN
    split <;> split <;> omega
  have hb : nulN k ≤ 65536 := by unfold nulN; omega
  refine TS.body mix Tryd.func56 (by kernel_rfl) rfl (by kernel_rfl) (by simp) ?_
  simp
  rw [e, nuls_flat]
  simp
  omega
theorem T_nulls4 (k : Int) : T Tryd.prog 56 [.int .i64 k] (rowA (nuls (nulN k))) := by
  refine T.introF ((S_nulls [] k).mono ?_)
  rintro _ _ ⟨rfl, rfl⟩
  exact Frz.mvA (f := Val.av) (sz := 3) (l := nuls (nulN k)) (by simp) (by simp [nuls])
def pickF (r : List Val) (p : Int) : Val := if 0 ≤ p ∧ p < r.length then r.getD p.toNat zV4 else zV4
theorem pickF_in {r : List Val} {k : Nat} (h : k < r.length) : pickF r k = r[k] := by
  unfold pickF
  rw [if_pos (by omega)]
  simp [h]
theorem pickF_out {r : List Val} {p : Int} (h : ¬ (0 ≤ p ∧ p < r.length)) : pickF r p = zV4 := if_neg h
theorem T_pick4 (r : List Val) (ps : List Int) (hr : r.length < 4611686018427387904) (hp : ps.length ≤ 1000) : T Tryd.prog 44 [rowA r, .sl .no (ints' ps)] (rowA (ps.map (pickF r))) := by
  have k0 := S_nulls [] (ps.length : Int)
  have hN : nulN (ps.length : Int) = ps.length := by unfold nulN; omega
  rw [hN] at k0
  refine T.introF (TS.body mix Tryd.func44 (by kernel_rfl) rfl (by kernel_rfl) (by simp) ?_)
  simp
  refine TS.pt k0 ?_
  simp
  refine vc_loop (fun i : Nat => ps.length - i) (fun i e H => e 0 = rowA r ∧ e 5 = .mv 0 ps.length 3 0 ps.length ∧ e 11 = .sl .no (ints' ps) ∧ e 12 = .int .i64 ps.length ∧ e 13 = .int .i64 i ∧ i ≤ ps.length ∧ ∃ M : List Val, M = (ps.map (pickF r)).take i ++ nuls (ps.length - i) ∧ H = [.row ps.length 3 ((vals' M).flatMap AV.cells)]) 0 ?_ ?_
  · simp
  rintro i e H ⟨e0, e5, e11, e12, e13, hi, M, hM, rfl⟩
  by_cases hlt : i < ps.length
  · have ew := wrap_next hlt (by omega)
    have hMl : M.length = ps.length := by rw [hM]; simp [nuls]; omega
    have hMi : i < M.length := by omega
    have htl : ((ps.map (pickF r)).take i).length = i := by simp; omega
    have hnz : nuls (ps.length - i) = zV4 :: nuls (ps.length - (i + 1)) := by
      unfold nuls
      rw [show ps.length - i = (ps.length - (i + 1)) + 1 by omega, List.replicate_succ]
    rw [hnz] at hM
    have hat : M[i] = zV4 := by
      subst hM
      rw [List.getElem_append_right (by omega)]
      simp [htl]
    have hnx : M.set i (pickF r ps[i]) = (ps.map (pickF r)).take (i + 1) ++ nuls (ps.length - (i + 1)) := by
      rw [hM, List.set_append, if_neg (by omega), htl, Nat.sub_self, List.set_cons_zero, take_next (by simpa using hlt), List.append_assoc]
      simp
    have hml := flatA_len (f := Val.av) (sz := 3) M
    rw [List.length_flatMap] at hml
    by_cases hin : 0 ≤ ps[i] ∧ ps[i] < r.length
    · obtain ⟨k, hk, ek⟩ : ∃ k : Nat, k < r.length ∧ ps[i] = k := ⟨ps[i].toNat, by omega, by omega⟩
      have hput := flatA_put (f := Val.av) M hMi (k := 0) (new := (r[k]).av.cells) (a := r[k]) (by simp) (by simp)
      rw [ek, pickF_in hk] at hnx
      rw [hnx] at hput
      have h0k : (0 : Int) ≤ k := by omega
      simp at hput
      simp [e0, e5, e11, e12, e13, hlt, ek, hk, h0k]
      exact ⟨by rw [hml]; omega, i + 1, by omega, ew, by omega, hput⟩
    · rw [pickF_out hin] at hnx
      have hsame : M.set i zV4 = M := by rw [← hat]; exact List.set_getElem_self hMi
      rw [hsame] at hnx
      simp [e0, e5, e11, e12, e13, hlt]
      refine condK_of (fun h => absurd (by simpa using h) hin) (fun h => ?_)
      simp [e0, e5, e11, e12, e13, hlt]
      exact ⟨i + 1, by omega, ew, by omega, by rw [hnx]⟩
  · have hil : i = ps.length := by omega
    subst hil
    have hM2 : M = ps.map (pickF r) := by rw [hM, List.take_of_length_le (by simp)]; simp [nuls]
    rw [hM2]
    simp [e0, e5, e11, e12, e13]
    exact Frz.mvA (f := Val.av) (sz := 3) rfl (by simp)
theorem T_small1 (n : Int) (h : n = 1 ∨ n = 2) : T Tryd.prog 83 [.int .i64 n] (.str (if n = 1 then ⟨#[49]⟩ else ⟨#[50]⟩)) := by
  refine T.intro (TS.body mix Tryd.func83 (by kernel_rfl) rfl (by kernel_rfl) (by simp) ?_)
  rcases h with rfl | rfl
  · simp
    exact ⟨by decide, by decide +kernel⟩
  · simp
    exact ⟨by decide, by decide +kernel⟩
theorem T_fmt1 (n : Int) (h : n = 1 ∨ n = 2) : T Tryd.prog 74 [.int .i64 n, .int .i64 10] (.str (if n = 1 then ⟨#[49]⟩ else ⟨#[50]⟩)) := by
  have k := T_small1 n h
  refine T.intro (TS.body mix Tryd.func74 (by kernel_rfl) rfl (by kernel_rfl) (by simp) ?_)
  have h0 : 0 ≤ n := by omega
  have h1 : n < 100 := by omega
  simp [h0, h1]
  refine TS.callW k (Dws.self (by simp)) ?_
  simp
theorem T_itoaI (n : Int) (h : n = 1 ∨ n = 2) : T Tryd.prog 60 [.int .i64 n] (.str (if n = 1 then ⟨#[49]⟩ else ⟨#[50]⟩)) := by
  have k := T_fmt1 n h
  refine T.intro (TS.body mix Tryd.func60 (by kernel_rfl) rfl (by kernel_rfl) (by simp) ?_)
  simp
  refine TS.callW k (Dws.self (by simp)) ?_
  simp
theorem T_itoa1 (n : Int) (h : n = 1 ∨ n = 2) : T Tryd.prog 52 [.int .i64 n] (.str (if n = 1 then ⟨#[49]⟩ else ⟨#[50]⟩)) := by
  have k := T_itoaI n h
  refine T.intro (TS.body mix Tryd.func52 (by kernel_rfl) rfl (by kernel_rfl) (by simp) ?_)
  simp
  refine TS.callW k (Dws.self (by simp)) ?_
  simp
theorem T_keyLive : T Tryd.prog 39 [rowA [zV4, ⟨2, 0, ⟨#[97]⟩⟩]] (.str ⟨#[49, 58, 110, 50, 58, 116, 97]⟩) := by
  have k1 := T_key zV4 (by decide) (by decide) (by decide)
  have k2 := T_key ⟨2, 0, ⟨#[97]⟩⟩ (by decide) (by decide) (by decide)
  have i1 := T_itoa1 1 (.inl rfl)
  have i2 := T_itoa1 2 (.inr rfl)
  have e1 : keyV zV4 = ⟨#[110]⟩ := by decide +kernel
  have e2 : keyV ⟨2, 0, ⟨#[97]⟩⟩ = ⟨#[116, 97]⟩ := by decide +kernel
  rw [e1] at k1
  rw [e2] at k2
  refine T.intro (TS.body mix Tryd.func39 (by kernel_rfl) rfl (by kernel_rfl) (by simp) ?_)
  simp
  refine vc_rnds 2 ?_
  simp
  refine TS.callW k1 (Dws.self (by simp)) ?_
  simp
  refine TS.callW i1 (Dws.self (by simp)) ?_
  simp
  refine ⟨by decide, by decide, rnds.next ?_⟩
  simp
  refine TS.callW k2 (Dws.self (by simp)) ?_
  simp
  refine TS.callW i2 (Dws.self (by simp)) ?_
  simp
  refine ⟨by decide, by decide, by decide, rnds.next ?_⟩
  simp
  decide +kernel




theorem i16_wf {n : Int} (h : (Lit.int .i16 n).wf = true) : -32768 ≤ n ∧ n < 32768 := by
  simp [Lit.wf, IntKind.min, IntKind.max, IntKind.signed, IntKind.bits] at h
  omega
theorem rowsV_in {cs : List AV} (h : Sh Tryd.prog 23 cs) : ∃ l : List (List Val), cs = [.sl .no (rows' l)] ∧ l.length < 4611686018427387904 ∧ ∀ r, r ∈ l → ∀ v, v ∈ r → v.s.size ≤ reachBytes := by
  obtain ⟨ys, rfl, hy, b⟩ := h.sl_of un_23 ag_31
  obtain ⟨l, e1, e2, e3⟩ := list_in (f := fun r => AV.sl .no (vals' r)) (g := mkAV false) (Q := fun r => ∀ v, v ∈ r → v.s.size ≤ reachBytes) (fun y hy' => by
    obtain ⟨x, h1, h2, h3⟩ := vals_in (hy y hy')
    exact ⟨x, by rw [h1]; rfl, fun v hv => (h2 v hv).2.2⟩)
  have hb : 1 ≤ Tryd.prog.bytesOf 31 := by decide +kernel
  have hr := reach_lt
  have := Nat.mul_le_mul_left ys.length hb
  exact ⟨l, by rw [e1]; rfl, by omega, e3⟩
theorem ints4_in {cs : List AV} (h : Sh Tryd.prog 22 cs) : ∃ l : List Int, cs = [.sl .no (ints' l)] ∧ l.length < 4611686018427387904 := by
  obtain ⟨ys, rfl, hy, b⟩ := h.sl_of un_22 ag_3
  obtain ⟨l, e, el, hl⟩ := list_in (f := AV.int .i64) (g := mkAV false) (Q := fun _ => True) (fun y hy' => by
    obtain ⟨n, rfl, hn⟩ := (hy y hy').int_of un_3
    exact ⟨n, rfl, trivial⟩)
  have hb : 1 ≤ Tryd.prog.bytesOf 3 := by decide +kernel
  have hr := reach_lt
  have := Nat.mul_le_mul_left ys.length hb
  exact ⟨l, by rw [e]; rfl, by omega⟩

end Go.Proofs.YtjplcdeaedflpaaDoor.PL
