/- Conditions, by where they are asked: one that names a table behind the core. -/
import Derived.Test.YtcjfjoilgnlemaaFNorm15
namespace Go.Proofs.Ytcjfjoilgnlemaa.PL
open Go.Proofs
set_option linter.unusedVariables false
set_option linter.unusedSimpArgs false
set_option maxRecDepth 4000 in
set_option maxHeartbeats 8000000 in
theorem S_addWK {b : Nat} {H : List HO} {N r c : Nat} {xl xe : AV} {E : List Edg} {oe : Option Nat} {x : Nat → AV} {L : Nat → List Ex'} {P : Nat → Option Nat} (e : Ex') (he : OkE e) (hn : e.nodes ≤ 1000000) (h : ASt b H N r c xl xe E oe x L P) (hU : (usesI e).any (outI c) = true) {k : Nat} (hP : P 1 = some k) (bd : (L 1).length ≤ 1000000) : TS Try.prog 78 [.ptr N 0, e.av] H (fun _ H' => AP b H N r c xl E (nup L 1 (L 1 ++ [e])) H') := by
  have ku := T_nuses e he hn
  have ka := T_nasEdge e he
  have hbox := h.box
  have hrow := h.row
  have hm := h.ms 1
  rw [hP] at hm
  obtain ⟨hr0, hr1⟩ := hm
  obtain ⟨n, hln⟩ : ∃ n, n = (L 1).length := ⟨_, rfl⟩
  obtain ⟨C, hC⟩ : ∃ C, C = (exprs (L 1)).flatMap AV.cells := ⟨_, rfl⟩
  have hCl : C.length = n * 9 := by rw [hC, exprs_len, ← hln]
  rw [← hln] at hr0 hr1 bd
  rw [← hC] at hr1
  rw [hr0] at hbox
  have hkl := (List.getElem?_eq_some_iff.1 hr1).1
  have hNk : ¬ N = k := by rintro rfl; rw [hbox] at hr1; cases hr1
  have hkN : ¬ k = N := fun h => hNk h.symm
  have hrk : ¬ r = k := by rintro rfl; rw [hrow] at hr1; simp at hr1
  have hkr : ¬ k = r := fun h => hrk h.symm
  have a1 : (n + 1) * 112 ≤ 140737488355328 := by omega
  have a2 : n ≤ 9223372036854775806 := by omega
  have a3 : (n : Int) < n + 1 := by omega
  have hNl := (List.getElem?_eq_some_iff.1 hbox).1
  have hrl := (List.getElem?_eq_some_iff.1 hrow).1
  have hNr := h.Nr
  simp only [Ex'.av_eq] at ku ka
  refine TS.bodyM [25, 36, 52, 63, 79, 90, 111, 132, 143, 300009, 1090100, 1090200, 1090300, 1090301, 1090302, 4000900, 4000901, 4000902, 100012, 1120701, 1120704, 1120705, 1121000, 1121001, 1121004, 1121005, 300014, 1140100, 1140200, 1140300, 1140301, 1140302, 4001400, 4001401, 4001402, 100017, 1170701, 1170704, 1170705, 1171000, 1171001, 1171004, 1171005, 300019, 1190100, 1190200, 1190300, 1190301, 1190302, 4001900, 4001901, 4001902, 100022, 1221807, 1221810, 1221813, 1221815, 1221816, 1222000, 1222003, 1222006, 1222007, 1222010, 1222013, 1222015, 1222016, 100024, 1240701, 1240704, 1240705, 1241000, 1241001, 1241004, 1241005, 300004, 1040100, 1040200, 1040300, 1040301, 1040302, 4000400, 4000401, 4000402, 100007, 1070701, 1070704, 1070705, 1071000, 1071001, 1071004, 1071005] mix Try.func78 (by kernel_rfl) rfl (by kernel_rfl) (by simp) ?_
  simp
  refine TS.callW ku (Dws.self (by simp)) ?_
  simp
  refine TS.callW ka (Dws.self (by simp)) ?_
  obtain ⟨H1, hH1⟩ : ∃ H1, H1 = H ++ [.box [.ptr N 0], .box e.cs] := ⟨_, rfl⟩
  have hl1 : H1.length = H.length + 2 := by rw [hH1]; simp
  have g0' : ∀ Y : List HO, (H1 ++ Y)[N]? = some (.box [.int .i64 c, .mv r c 1 0 c, xe, x 0, xl, (.mv k n 9 0 n)]) := fun Y => getElem?_app (by rw [hH1]; exact getElem?_app hbox)
  have g1' : ∀ Y : List HO, (H1 ++ Y)[H.length]? = some (.box [.ptr N 0]) := fun Y => getElem?_app (by rw [hH1]; simp)
  have g2' : ∀ Y : List HO, (H1 ++ Y)[H.length + 1]? = some (.box e.cs) := fun Y => getElem?_app (by rw [hH1]; simp)
  have hf : ∀ i, i < H.length → H1[i]? = H[i]? := fun i hi => by rw [hH1, List.getElem?_append_left hi]
  have n1 : ∀ j : Nat, ¬ N = H1.length + j := fun j => by omega
  rw [← hH1]
  clear hH1
  have g3' : ∀ Y : List HO, (H1 ++ Y)[k]? = some (.row n 9 C) := fun Y => getElem?_app (by rw [hf k hkl]; exact hr1)
  have n2 : ∀ j : Nat, ¬ k = H1.length + j := fun j => by omega
  have gk : ∀ (Y : List HO) (R : HO), ((H1 ++ Y).set k R)[k]? = some R := fun Y R => List.getElem?_set_self (by simp; omega)
  have g1s : ∀ (Y : List HO) (R : HO), ((H1 ++ Y).set k R)[H.length]? = some (.box [.ptr N 0]) := fun Y R => by rw [List.getElem?_set_ne (by omega)]; exact g1' Y
  have g2s : ∀ (Y : List HO) (R : HO), ((H1 ++ Y).set k R)[H.length + 1]? = some (.box e.cs) := fun Y R => by rw [List.getElem?_set_ne (by omega)]; exact g2' Y
  obtain ⟨U, hUe⟩ : ∃ U, U = usesI e := ⟨_, rfl⟩
  have hUl := usesI_len e
  rw [← hUe] at hU hUl ⊢
  have hne : ¬ U = [] := by rintro rfl; simp at hU
  have hne' : ¬ (U.length : Int) = 0 := by have := List.length_pos_iff.2 hne; omega
  have hA : U.any (outI c) = true := hU
  simp (config := {maxSteps := 1600000}) [g0', g1', g2', g3', n1, n2, hNk, hkN, hCl, a1, a2, a3, gk, g1s, g2s, hne, hne']
  refine TS.pt (S_containsFunc _ _ _ U (outI c) (by omega) (fun x _ => S_add1 (g1' _) (g0' _))) ?_
  rw [hA]
  simp (config := {maxSteps := 1600000}) [g0', g1', g2', g3', n1, n2, hNk, hkN, hCl, a1, a2, a3, gk, g1s, g2s, hne, hne']
  refine ⟨h.finW hl1 hf e k n hln (fun i q1 q2 q3 => ?_) ?_ ?_ (.inr hP) (by simp), h.finW hl1 hf e k n hln (fun i q1 q2 q3 => ?_) ?_ ?_ (.inr hP) (by simp)⟩
  · rw [List.getElem?_set_ne (Ne.symm q3), List.getElem?_set_ne (Ne.symm q2), List.getElem?_set_ne (Ne.symm q3), List.getElem?_append_left q1]
  · rw [List.getElem?_set_ne hkN, List.getElem?_set_self (by simp; omega)]
  · rw [List.getElem?_set_self (by simp; omega), ← hC, List.drop_of_length_le (by simp; omega)]; try rfl
  · rw [List.getElem?_set_ne (Ne.symm q2), List.getElem?_set_ne (Ne.symm q3), List.getElem?_append_left q1]
  · rw [List.getElem?_set_self (by simp; omega)]
  · rw [List.getElem?_set_ne hNk, List.getElem?_set_self (by simp; omega), ← hC]; try rfl
end Go.Proofs.Ytcjfjoilgnlemaa.PL
