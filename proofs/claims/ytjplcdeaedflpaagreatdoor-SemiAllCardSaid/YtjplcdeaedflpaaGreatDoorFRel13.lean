/- Relations: all together, in whatever order. -/
import Derived.Test.YtjplcdeaedflpaaGreatDoorFRel12
namespace Go.Proofs.YtjplcdeaedflpaaGreatDoor.PL
open Go.Proofs
set_option linter.unusedVariables false
set_option linter.unusedSimpArgs false
theorem rels_in {cs : List AV} (h : Sh Tryz.prog 31 cs) : ∃ l : List Rel, cs = [.sl .no (rels' l)] ∧ (∀ r, r ∈ l → RelIn r) ∧ l.length < 4611686018427387904 := by
  obtain ⟨ys, rfl, hy, b⟩ := h.sl_of un_31 ag_25
  obtain ⟨l, e, el, hl⟩ := list_in (f := Rel.av) (g := mkAV true) (Q := RelIn) (fun y hy' => by
    obtain ⟨r, e, hr⟩ := Rel_in2 (hy y hy')
    exact ⟨r, by rw [e]; rfl, hr⟩)
  have hb : 1 ≤ Tryz.prog.bytesOf 25 := by decide +kernel
  have hr := reach_lt
  have := Nat.mul_le_mul_left ys.length hb
  exact ⟨l, by rw [e]; rfl, hl, by omega⟩
theorem T_SemiAll (l : List Rel) (hl : l.length < 4611686018427387904) (hi : ∀ r, r ∈ l → RelIn r) : T Tryz.prog 4 [.sl .no (rels' l)] (.bool true) := by
  have k1 := T_rwide24 l hl hi
  refine T.intro (TS.body mix Tryz.func4 (by kernel_rfl) rfl (by kernel_rfl) (by simp) ?_)
  simp
  refine TS.callW k1 (Dws.self (by simp)) ?_
  cases hw : wideL l with
  | true =>
    simp
    refine TS.callW T_live24 .nil ?_
    simp
  | false =>
  obtain ⟨hok, hp, hn⟩ := wideL_no hw hi
  have hrl : l.reverse.length = l.length := List.length_reverse
  have hokr : OkL l.reverse := ⟨fun r hr => hok.ok r (by simpa using hr), fun r hr => hok.nc r (by simpa using hr), by omega, by
    have : prodR l.reverse = prodR l := prodR_perm (List.reverse_perm l)
    rw [this]; exact hok.pr⟩
  have hperm := allJ_perm ((List.reverse_perm l).map heldR)
  have e1 : IntKind.i64.wrap ((l.length : Int) - 1) = (l.length : Int) - 1 - ((0 : Nat) : Int) := by rw [wrap_i64 (by omega) (by omega)]; omega
  simp [e1]
  refine vc_loop (fun j : Nat => l.length - j) (fun j e H => e 0 = .sl .no (rels' l) ∧ e 4 = .int .i64 ((l.length : Int) - 1 - (j : Int)) ∧ j ≤ l.length ∧ Grow1 2 H (e 3) (rels' (l.reverse.take j))) 0 ?_ ?_
  · simp
    exact .nil
  rintro j e H ⟨e0, e4, hj, hg⟩
  by_cases hlt : j < l.length
  · have hge : 0 ≤ (l.length : Int) - 1 - (j : Int) := by omega
    obtain ⟨m, hm⟩ : ∃ m : Nat, m = l.length - 1 - j := ⟨_, rfl⟩
    have hme : (l.length : Int) - 1 - (j : Int) = (m : Int) := by omega
    have hml : m < l.length := by omega
    have ew : IntKind.i64.wrap ((m : Int) - 1) = (l.length : Int) - 1 - ((j + 1 : Nat) : Int) := by rw [wrap_i64 (by omega) (by omega)]; omega
    have hnx : l.reverse.take (j + 1) = l.reverse.take j ++ [l[m]] := by
      rw [take_next (by omega)]
      congr 2
      rw [List.getElem_reverse]
      congr 1
      omega
    have hjl : (l.reverse.take j).length = j := by simp; omega
    rw [hme] at e4
    simp [e0, e4, hml]
    rcases hg with ⟨ge, gx⟩ | ⟨t, gx, ht⟩
    · rw [avs_eq_nil] at ge
      simp [e0, e4, hml, gx]
      refine ⟨j + 1, by omega, ew, by omega, ?_⟩
      rw [hnx]
      exact Grow1.first (f := Rel.av) ge rfl
    · have hw := ht
      simp only [avs_length] at hw
      simp [e0, e4, hml, gx, hw]
      refine ⟨by omega, j + 1, by omega, ew, by omega, ?_⟩
      rw [hnx]
      exact Grow1.more (f := Rel.av) ht (by omega)
  · have : j = l.length := by omega
    subst this
    rw [← hrl, List.take_length] at hg
    obtain ⟨own, gx⟩ := hg.own
    have hneg : (l.length : Int) - 1 - (l.length : Int) = -1 := by omega
    rw [hneg] at e4
    have c1 := T_sall l hok
    have c2 := T_rall24 l hok
    have c4 := T_sall l.reverse hokr
    have oa := hok.held.all
    have c3 : T Tryz.prog 14 [(allJ (l.map heldR)).av, (allJ (l.map heldR)).av] (.bool true) := T_rsame24 _ (by have := oa.nc; omega) (by have := oa.nr; omega) fun x hx => by have := (oa.row x hx).1; omega
    have c5 := T_rbag24 (allJ (l.map heldR)) (allJ (l.reverse.map heldR)) hperm.1.symm hperm.2.symm oa
    generalize allJ (l.map heldR) = s1 at *
    generalize allJ (l.reverse.map heldR) = s2 at *
    simp [e0, e4, gx]
    refine TS.callW c1 (Dws.self (by simp)) ?_
    simp [e0, e4, gx]
    refine TDK.callW c2 (Dws.self (by simp)) ?_
    simp [e0, e4, gx]
    refine TDK.callW c3 (Dws.self (by simp)) ?_
    simp [e0, e4, gx]
    refine GTK.callW (fun _ => ⟨c4, .cons (.sl (Dws.self (by simp))) .nil⟩) ?_
    simp [e0, e4, gx]
    refine GTK.callW (fun _ => ⟨c5, Dws.self (by simp)⟩) ?_
    simp [e0, e4, gx]
    refine GTK.callW (fun _ => ⟨T_live24, .nil⟩) ?_
    simp
theorem S_SemiAll {xs : List AV} (h : ShA Tryz.prog [31] xs) : T Tryz.prog 4 xs (.bool true) := by
  obtain ⟨y, r, rfl, h0, h⟩ := h.cons_of ag_31
  obtain rfl := h.nil_of
  obtain ⟨l, rfl, hi, hl⟩ := rels_in h0
  exact T_SemiAll l hl hi
end Go.Proofs.YtjplcdeaedflpaaGreatDoor.PL
