/- Conditions, by where they are asked: one that names one table. -/
import Derived.Test.YtcjfjoilgnlemaaFNorm15
namespace Go.Proofs.Ytcjfjoilgnlemaa.PL
open Go.Proofs
set_option linter.unusedVariables false
set_option linter.unusedSimpArgs false
set_option maxRecDepth 4000 in
set_option maxHeartbeats 8000000 in
theorem S_addSN {b : Nat} {H : List HO} {N r c : Nat} {xl xe : AV} {E : List Edg} {oe : Option Nat} {x : Nat → AV} {L : Nat → List Ex'} {P : Nat → Option Nat} (e : Ex') (he : OkE e) (hn : e.nodes ≤ 1000000) (h : ASt b H N r c xl xe E oe x L P) {u : Nat} (hu : u < c) (hU : usesI e = [(u : Int)]) (hP : P (u + 2) = none) : TS Try.prog 78 [.ptr N 0, e.av] H (fun _ H' => AP b H N r c xl E (nup L (u + 2) (L (u + 2) ++ [e])) H') := by
  have ku := T_nuses e he hn
  have ka := T_nasEdge e he
  have hbox := h.box
  have hrow := h.row
  have hX : (nrow c x)[u]? = some (x (u + 2)) := by simp [hu]
  have hm := h.ms (u + 2)
  rw [hP] at hm
  obtain ⟨hr0, hr1⟩ := hm
  rw [hr1] at hX
  have hNl := (List.getElem?_eq_some_iff.1 hbox).1
  have hrl := (List.getElem?_eq_some_iff.1 hrow).1
  have hNr := h.Nr
  simp only [Ex'.av_eq] at ku ka
  refine TS.bodyM [25, 36, 52, 63, 79, 90, 111, 132, 143, 300009, 1090100, 1090200, 1090300, 1090301, 1090302, 4000900, 4000901, 4000902, 100012, 1120701, 1120704, 1120705, 1121000, 1121001, 1121004, 1121005, 300014, 1140100, 1140200, 1140300, 1140301, 1140302, 4001400, 4001401, 4001402, 100017, 1170701, 1170704, 1170705, 1171000, 1171001, 1171004, 1171005, 300019, 1190100, 1190200, 1190300, 1190301, 1190302, 4001900, 4001901, 4001902, 100022, 1221807, 1221810, 1221813, 1221815, 1221816, 1222000, 1222003, 1222006, 1222007, 1222010, 1222013, 1222015, 1222016, 100024, 1240701, 1240704, 1240705, 1241000, 1241001, 1241004, 1241005, 300004, 1040100, 1040200, 1040300, 1040301, 1040302, 4000400, 4000401, 4000402, 100007, 1070701, 1070704, 1070705, 1071000, 1071001, 1071004, 1071005] mix Try.func78 (by kernel_rfl) rfl (by kernel_rfl) (by simp) ?_
  simp
  refine TS.callW ku (Dws.self (by simp)) ?_
  simp
  refine TS.callW ka (Dws.self (by simp)) ?_
  obtain ⟨H1, hH1⟩ : ∃ H1, H1 = H ++ [.box [.ptr N 0], .box e.cs] := ⟨_, rfl⟩
  have hl1 : H1.length = H.length + 2 := by rw [hH1]; simp
  have g0' : ∀ Y : List HO, (H1 ++ Y)[N]? = some (.box [.int .i64 c, .mv r c 1 0 c, xe, x 0, xl, x 1]) := fun Y => getElem?_app (by rw [hH1]; exact getElem?_app hbox)
  have g1' : ∀ Y : List HO, (H1 ++ Y)[H.length]? = some (.box [.ptr N 0]) := fun Y => getElem?_app (by rw [hH1]; simp)
  have g2' : ∀ Y : List HO, (H1 ++ Y)[H.length + 1]? = some (.box e.cs) := fun Y => getElem?_app (by rw [hH1]; simp)
  have hf : ∀ i, i < H.length → H1[i]? = H[i]? := fun i hi => by rw [hH1, List.getElem?_append_left hi]
  have n1 : ∀ j : Nat, ¬ N = H1.length + j := fun j => by omega
  rw [← hH1]
  clear hH1
  have hXv := hX
  have gr' : ∀ Y : List HO, (H1 ++ Y)[r]? = some (.row c 1 (nrow c x)) := fun Y => getElem?_app (by rw [hf r hrl]; exact hrow)
  have hXc : (nrow c x).length = c := nrow_len c x
  obtain ⟨X, hXX⟩ : ∃ X, X = nrow c x := ⟨_, rfl⟩
  rw [← hXX] at hX hXv hXc gr'
  have hXg : ∀ hh : u < X.length, X[u]'hh = (.sl .exact []) := fun hh => by rw [List.getElem?_eq_getElem hh] at hXv; exact Option.some.inj hXv
  have hrN : ¬ r = N := fun h => hNr h.symm
  have n3 : ∀ j : Nat, ¬ r = H1.length + j := fun j => by omega
  obtain ⟨U, hUe⟩ : ∃ U, U = usesI e := ⟨_, rfl⟩
  have hUl := usesI_len e
  rw [← hUe] at hU hUl ⊢
  subst hU
  have hne : ¬ [(u : Int)] = [] := by simp
  have hne' : True := trivial
  have hA : [(u : Int)].any (outI c) = false := by simp [outI]; omega
  simp (config := {maxSteps := 1600000}) [g0', g1', g2', n1, gr', hX, hXg, hXc, hu, hNr, hrN, n3, hne, hne']
  refine TS.pt (S_containsFunc _ _ _ [(u : Int)] (outI c) (by omega) (fun x _ => S_add1 (g1' _) (g0' _))) ?_
  rw [hA]
  simp (config := {maxSteps := 1600000}) [g0', g1', g2', n1, gr', hX, hXg, hXc, hu, hNr, hrN, n3, hne, hne']
  have hset : ∀ v, List.take u X ++ v :: List.drop (u + 1) X = X.set u v := fun v => by rw [List.set_eq_take_append_cons_drop, if_pos (by omega)]
  simp only [hset]
  clear hset
  subst hXX
  refine ⟨⟨hu, h.finS hl1 hf e u (H1.length + 2) 0 hu (by rw [hr0]; rfl) (fun i q1 q2 q3 => ?_) ?_ ?_ (.inl (by omega)) (by simp)⟩, hu, h.finS hl1 hf e u (H1.length + 2) 0 hu (by rw [hr0]; rfl) (fun i q1 q2 q3 => ?_) ?_ ?_ (.inl (by omega)) (by simp)⟩
  · rw [List.getElem?_set_ne (by omega), List.getElem?_set_ne (Ne.symm q2), List.getElem?_append_left q1]
  · rw [List.getElem?_set_ne (by omega), List.getElem?_set_self (by simp; omega)]
  · rw [List.getElem?_set_self (by simp)]; simp [hr0]
  · rw [List.getElem?_set_ne (Ne.symm q2), List.getElem?_append_left q1]
  · rw [List.getElem?_set_self (by simp; omega)]
  · rw [List.getElem?_set_ne (n3 2), List.getElem?_append_right (by omega)]; simp [hr0]
end Go.Proofs.Ytcjfjoilgnlemaa.PL
