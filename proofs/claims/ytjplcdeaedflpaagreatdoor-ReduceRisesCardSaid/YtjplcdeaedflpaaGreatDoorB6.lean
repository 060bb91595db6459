/- Contracts of functions of the program, and plain laws (part 6): Relations: both together, by the reference; Relations, in plain words: all together, in whatever order; Relations, in plain words: what programs of semijoins leave; Relations: all together, in the program and by the reference; Relations: any two  all together, in whatever order; Relations: all together, in whatever order. -/
import Derived.Test.YtjplcdeaedflpaaGreatDoorB5
namespace Go.Proofs.YtjplcdeaedflpaaGreatDoor.PL
open Go.Proofs
set_option linter.unusedVariables false
set_option linter.unusedSimpArgs false
/-- the memory while rows are put together -/
structure JR (a b : Rel) (U : List Int) (R : List (Own × List Val)) (M : List HO) : Prop where
  g0 : M[3]? = some (.box a.cs)
  g1 : M[4]? = some (.box b.cs)
  g2 : ∃ c2 : List AV, c2.length = 2 ∧ M[2]? = some (.box c2)
  g7 : ∃ x, M[7]? = some (.box [.sl .no (ints' U), x]) ∧ ((R = [] ∧ (x = .sl .nil [] ∨ x = .sl .exact [])) ∨ ∃ t, x = .sl (.tok t) (orows R) ∧ M[t]? = some (.spare R.length 1))
namespace JR
variable {a b : Rel} {U : List Int} {R : List (Own × List Val)} {M : List HO}
theorem app (h : JR a b U R M) (J : List HO) : JR a b U R (M ++ J) := by
  have e : ∀ {i : Nat} {o : HO}, M[i]? = some o → (M ++ J)[i]? = some o := fun {i o} hi => by rw [List.getElem?_append_left (List.getElem?_eq_some_iff.1 hi).1]; exact hi
  obtain ⟨c2, h2, g2⟩ := h.g2
  obtain ⟨x, g7, hx⟩ := h.g7
  refine ⟨e h.g0, e h.g1, ⟨c2, h2, e g2⟩, x, e g7, ?_⟩
  rcases hx with hx | ⟨t, hx, ht⟩
  · exact .inl hx
  · exact .inr ⟨t, hx, e ht⟩
theorem first (h : JR a b U [] M) {r : List Val} {own : Own} {k : Nat} (hk : k = M.length) : JR a b U [(own, r)] ((M ++ [HO.spare 1 1]).set 7 (.box [.sl .no (ints' U), .sl (.tok k) [.sl own (vals' r)]])) := by
  subst hk
  have h1 := h.app [HO.spare 1 1]
  have hl : 7 < M.length := by obtain ⟨x, g7, _⟩ := h.g7; exact (List.getElem?_eq_some_iff.1 g7).1
  have e : ∀ {i : Nat} (z : HO), i ≠ 7 → ((M ++ [HO.spare 1 1]).set 7 z)[i]? = (M ++ [HO.spare 1 1])[i]? := fun {i} z hi => List.getElem?_set_ne (Ne.symm hi)
  refine ⟨?_, ?_, ?_, _, List.getElem?_set_self (by simp; omega), .inr ⟨M.length, by simp [avs], ?_⟩⟩
  · rw [e _ (by omega)]; exact h1.g0
  · rw [e _ (by omega)]; exact h1.g1
  · rw [e _ (by omega)]; exact h1.g2
  · rw [e _ (by omega)]; simp
theorem more (h : JR a b U R M) {x : AV} {t n : Nat} (g7 : M[7]? = some (.box [.sl .no (ints' U), x])) (ht : M[t]? = some (.spare R.length 1)) {r : List Val} {own : Own} (hn : n = R.length + 1) : JR a b U (R ++ [(own, r)]) ((M.set t (.spare n 1)).set 7 (.box [.sl .no (ints' U), .sl (.tok t) (orows R ++ [.sl own (vals' r)])])) := by
  subst hn
  have hl := (List.getElem?_eq_some_iff.1 g7).1
  have htl := (List.getElem?_eq_some_iff.1 ht).1
  have ht7 : 7 ≠ t := by rintro rfl; rw [g7] at ht; cases ht
  have e : ∀ {i : Nat} {o : HO} (z : HO), M[i]? = some o → i ≠ 7 → (∀ n, o ≠ .spare n 1) → ((M.set t (.spare (R.length + 1) 1)).set 7 z)[i]? = some o := fun {i o} z hi h7 ho => by
    have : i ≠ t := by rintro rfl; rw [ht] at hi; exact ho _ (Option.some.inj hi).symm
    rw [List.getElem?_set_ne (Ne.symm h7), List.getElem?_set_ne (Ne.symm this)]
    exact hi
  obtain ⟨c2, h2, g2⟩ := h.g2
  refine ⟨e _ h.g0 (by omega) (by simp), e _ h.g1 (by omega) (by simp), ⟨c2, h2, e _ g2 (by omega) (by simp)⟩, _, List.getElem?_set_self (by simp; omega), .inr ⟨t, by simp [avs, oslA], ?_⟩⟩
  rw [List.getElem?_set_ne ht7, List.getElem?_set_self htl]
  simp
end JR
theorem share {G X : Prop} (x : X) (f : X → G) : G := f x
theorem lts_ints (l : List Int) (k : Nat) : AV.lts k (avs (AV.int .i64) l) = true := by
  induction l with
  | nil => rfl
  | cons a l ih => simp [avs, AV.lts, AV.lt]; simpa [avs] using ih
theorem filter_row {a b : Rel} {x : List Val} {k : Nat} (h : k < b.rows.length) : ((b.rows.take (k + 1)).filter fun y => meetB a b x y).map (rowJ a b x) = ((b.rows.take k).filter fun y => meetB a b x y).map (rowJ a b x) ++ if meetB a b x b.rows[k] = true then [rowJ a b x b.rows[k]] else [] := by
  rw [filter_nextR h, List.map_append]
  by_cases hm : meetB a b x b.rows[k] = true
  · rw [if_pos hm, if_pos hm]; rfl
  · rw [if_neg hm, if_neg hm]; rfl
set_option maxRecDepth 6000 in
theorem T_rjoin24 (p q : Rel) (hp : OkR p) (hq : OkR q) : T Tryz.prog 19 [p.av, q.av] (joinR (heldR p) (heldR q)).av := by
  have k1 := T_rheld24 p hp
  have k2 := T_rheld24 q hq
  have ha := heldR_ok hp
  have hb := heldR_ok hq
  have har := heldR_right p
  obtain ⟨a, haa⟩ : ∃ a, a = heldR p := ⟨_, rfl⟩
  obtain ⟨b, hbb⟩ : ∃ b, b = heldR q := ⟨_, rfl⟩
  rw [← haa] at k1 ha har ⊢
  rw [← hbb] at k2 hb ⊢
  have hnc := ha.nc
  have hnb := hb.nc
  have hnr := ha.nr
  have hnbr := hb.nr
  obtain ⟨U, hU⟩ : ∃ U, U = colsJ a b := ⟨_, rfl⟩
  have hUl : U.length ≤ a.cols.length + b.cols.length := by rw [hU]; exact colsJ_len a b
  have k4 := T_rset21 (a.cols ++ b.cols) (by simp; omega)
  have hcat : setI (a.cols ++ b.cols) = U := by rw [hU]; rfl
  rw [hcat] at k4
  refine T.introF (TS.bodyM [300001, 1010600, 1010601, 1010602, 1010603, 1010604, 1010605, 1010700, 1010701, 1010702, 1010703, 1010704, 1010705, 1010706, 300002, 1020300, 1020301, 1020302, 1020600, 1020601, 1020602, 1020603, 1020604, 1020605, 1020703, 1020706, 1020803, 1020806, 1021000, 1021001, 1021002, 1021003, 1021004, 1021005, 1021006, 1021007, 1021008, 1021009, 6000203, 6000206] mix Tryz.func19 (by kernel_rfl) rfl (by kernel_rfl) (by simp) ?_)
  simp
  refine TDK.callW k1 (Dws.self (by simp)) ?_
  simp
  refine TDK.callW k2 (Dws.self (by simp)) ?_
  simp
  have o1 : b.cols.length * 8 ≤ 140737488355328 ∧ b.cols.length ≤ 9223372036854775807 := ⟨by omega, by omega⟩
  have o2 : (a.cols.length + b.cols.length) * 8 ≤ 140737488355328 ∧ a.cols.length + b.cols.length ≤ 9223372036854775807 := ⟨by omega, by omega⟩
  refine ⟨⟨by omega, by omega⟩, ?_⟩
  apply share
  case f =>
    intro body
    refine ⟨fun h1 => ⟨o1, fun h2 => ?_, fun h2 => ⟨fun k => lts_ints _ k, ?_⟩⟩, fun h1 => ⟨fun k => lts_ints _ k, ⟨o2, ?_⟩⟩⟩
    · rw [h1, h2] at k4
      refine TDK.callW k4 (.cons (.sl (Dws.self (by simp))) .nil) ?_
      simp
      refine vc_loop (fun i : Nat => a.rows.length - i) (fun i e M => e 4 = .ptr 2 0 ∧ e 5 = .ptr 3 0 ∧ e 6 = .ptr 4 0 ∧ e 7 = .ptr 7 0 ∧ e 8 = .int .i64 i ∧ i ≤ a.rows.length ∧ ∃ RL : List (Own × List Val), RL.map Prod.snd = (a.rows.take i).flatMap (rowsJ a b) ∧ JR a b U RL M) 0 ?_ body
      simp
      exact ⟨rfl, rfl, ⟨_, rfl, rfl⟩, _, rfl, .inl ⟨rfl, .inr rfl⟩⟩
    · rw [h1] at k4
      refine TDK.callW k4 (.cons (.sl (Dws.self (by simp))) .nil) ?_
      simp
      refine vc_loop (fun i : Nat => a.rows.length - i) (fun i e M => e 4 = .ptr 2 0 ∧ e 5 = .ptr 3 0 ∧ e 6 = .ptr 4 0 ∧ e 7 = .ptr 7 0 ∧ e 8 = .int .i64 i ∧ i ≤ a.rows.length ∧ ∃ RL : List (Own × List Val), RL.map Prod.snd = (a.rows.take i).flatMap (rowsJ a b) ∧ JR a b U RL M) 0 ?_ body
      simp
      exact ⟨rfl, rfl, ⟨_, rfl, rfl⟩, _, rfl, .inl ⟨rfl, .inr rfl⟩⟩
    · refine TDK.callW k4 (.cons (.sl (Dws.self (by simp))) .nil) ?_
      simp
      refine vc_loop (fun i : Nat => a.rows.length - i) (fun i e M => e 4 = .ptr 2 0 ∧ e 5 = .ptr 3 0 ∧ e 6 = .ptr 4 0 ∧ e 7 = .ptr 7 0 ∧ e 8 = .int .i64 i ∧ i ≤ a.rows.length ∧ ∃ RL : List (Own × List Val), RL.map Prod.snd = (a.rows.take i).flatMap (rowsJ a b) ∧ JR a b U RL M) 0 ?_ body
      simp
      exact ⟨rfl, rfl, ⟨_, rfl, rfl⟩, _, rfl, .inl ⟨rfl, .inr rfl⟩⟩
  clear k4 o1 o2 k1 k2 hcat
  rintro i e M ⟨e4, e5, e6, e7, e8, hi, RL, hRL, hj⟩
  by_cases hlt : i < a.rows.length
  · have ew := wrap_next hlt (by omega)
    have hxm := List.getElem_mem hlt
    have hnx := flat_next (a := a) (b := b) hlt
    have hfl := flat_len (a := a) hnbr (a.rows.take i)
    have hil : (a.rows.take i).length ≤ 100000 := by simp; omega
    have hxr := ha.row _ hxm
    have hxl := rightR_row har hxm
    obtain ⟨x, hx⟩ : ∃ x, x = a.rows[i] := ⟨_, rfl⟩
    rw [← hx] at hxm hnx hxr hxl
    obtain ⟨R0, hR0⟩ : ∃ R0, R0 = (a.rows.take i).flatMap (rowsJ a b) := ⟨_, rfl⟩
    rw [← hR0] at hRL hnx hfl
    have g0 := hj.g0
    simp [e4, e5, e6, e7, e8, hlt, g0]
    refine vc_loop (fun k : Nat => b.rows.length - k) (fun k e M => e 4 = .ptr 2 0 ∧ e 5 = .ptr 3 0 ∧ e 6 = .ptr 4 0 ∧ e 7 = .ptr 7 0 ∧ e 8 = .int .i64 i ∧ e 9 = .int .i64 k ∧ k ≤ b.rows.length ∧ ∃ RL : List (Own × List Val), RL.map Prod.snd = R0 ++ ((b.rows.take k).filter fun y => meetB a b x y).map (rowJ a b x) ∧ JR a b U RL M) 0 ?_ ?_
    · simp [e4, e5, e6, e7, e8]
      exact ⟨RL, hRL, hj⟩
    clear g0 hj hRL RL e4 e5 e6 e7 e8 e M
    rintro k e M ⟨e4, e5, e6, e7, e8, e9, hk, RL, hRL, hj⟩
    by_cases hkl : k < b.rows.length
    · have ewk := wrap_next hkl (by omega)
      have hym := List.getElem_mem hkl
      have hyr := hb.row _ hym
      have hnk := filter_row (a := a) (x := x) hkl
      have hpl : (((b.rows.take k).filter fun y => meetB a b x y).map (rowJ a b x)).length ≤ k := by rw [List.length_map]; exact Nat.le_trans (List.length_filter_le ..) (by simp; omega)
      obtain ⟨y, hyy⟩ : ∃ y, y = b.rows[k] := ⟨_, rfl⟩
      have km := T_rmeet a b x y ha hb hxm (by rw [hyy]; exact hym)
      rw [← hyy] at hyr hnk hym
      obtain ⟨R, hR⟩ : ∃ R, R = R0 ++ ((b.rows.take k).filter fun y => meetB a b x y).map (rowJ a b x) := ⟨_, rfl⟩
      have hRl : R.length ≤ 100000 * 100000 + 100000 := by rw [hR, List.length_append]; omega
      rw [← hR] at hRL
      have hRLl : RL.length = R.length := by rw [← hRL, List.length_map]
      have g0 := hj.g0
      have g1 := hj.g1
      obtain ⟨xx, g7, hxx⟩ := hj.g7
      have hMl := (List.getElem?_eq_some_iff.1 g7).1
      simp [e4, e5, e6, e7, e8, e9, hlt, hkl, g0, g1, ← hx, ← hyy]
      refine TDK.callW km (Dws.self (by simp)) ?_
      cases hm : meetB a b x y with
      | false =>
        rw [hm, if_neg (by simp), List.append_nil] at hnk
        simp [e4, e5, e6, e7, e8, e9, hlt, hkl]
        exact ⟨k + 1, by omega, ewk, by omega, RL, by rw [hnk, ← hR]; exact hRL, hj⟩
      | true =>
        rw [hm, if_pos rfl] at hnk
        have hRn : R0 ++ ((b.rows.take (k + 1)).filter fun y => meetB a b x y).map (rowJ a b x) = R ++ [rowJ a b x y] := by rw [hnk, hR, List.append_assoc]
        have g0' : ∀ Y : List HO, (M ++ Y)[3]? = some (.box a.cs) := fun Y => (hj.app Y).g0
        have g1' : ∀ Y : List HO, (M ++ Y)[4]? = some (.box b.cs) := fun Y => (hj.app Y).g1
        have g7' : ∀ Y : List HO, (M ++ Y)[7]? = some (.box [.sl .no (ints' U), xx]) := fun Y => by rw [List.getElem?_append_left hMl]; exact g7
        obtain ⟨cl, hcl2⟩ : ∃ cl, cl = U.map (cellJ a b x y) := ⟨_, rfl⟩
        have hclr : rowJ a b x y = cl := by rw [hcl2, hU]; rfl
        have hcll : cl.length = U.length := by rw [hcl2, List.length_map]
        have hclm : ∀ m (h : m < U.length), cl[m]'(by omega) = cellJ a b x y U[m] := fun m h => by subst hcl2; simp
        clear hcl2
        rw [hclr] at hRn
        simp [e4, e5, e6, e7, e8, e9, hlt, hkl]
        refine vc_loop (fun m : Nat => U.length - m) (fun m e H => e 4 = .ptr 2 0 ∧ e 5 = .ptr 3 0 ∧ e 6 = .ptr 4 0 ∧ e 7 = .ptr 7 0 ∧ e 8 = .int .i64 i ∧ e 9 = .int .i64 k ∧ e 11 = .int .i64 m ∧ m ≤ U.length ∧ ∃ J, H = M ++ J ∧ GrowB 3 M J (e 10) (vals' (cl.take m))) 0 ?_ ?_
        · simp [e4, e5, e6, e7, e8, e9]
          exact .nil
        clear e4 e5 e6 e7 e8 e9 e
        rintro m e H ⟨e4, e5, e6, e7, e8, e9, e11, hm2, J, rfl, hg⟩
        by_cases hml : m < U.length
        · have ewm := wrap_next hml (by omega)
          have hnm : cl.take (m + 1) = cl.take m ++ [cellJ a b x y U[m]] := by rw [take_next (by omega), hclm m hml]
          have hmt : (cl.take m).length = m := by simp; omega
          have k8 := T_has21 a.cols U[m] (by omega)
          simp [e4, e5, e6, e7, e8, e9, e11, hml, g0', g7']
          refine TDK.callW k8 (Dws.self (by simp)) ?_
          by_cases hin2 : U[m] ∈ a.cols
          · have k9 := T_rvalue24 a x U[m] hnc hxr.1
            have hc : cellJ a b x y U[m] = pickF x (idxF a.cols U[m]) := by unfold cellJ; rw [if_pos hin2]
            rw [← hc] at k9
            simp [e4, e5, e6, e7, e8, e9, e11, hml, hin2, g0', g7', hlt, ← hx]
            refine TDK.callW k9 (Dws.self (by simp)) ?_
            rcases hg with ⟨ge, gx⟩ | ⟨t, gx, ht⟩
            · rw [avs_eq_nil] at ge
              simp [e4, e5, e6, e7, e8, e9, e11, hml, gx]
              refine ⟨m + 1, by omega, ewm, by omega, ?_⟩
              rw [hnm]
              exact GrowB.first (f := Val.av) ge rfl
            · have hw := ht
              simp only [avs_length] at hw
              have hw' : (M ++ J)[M.length + t]? = some (.spare (cl.take m).length 3) := by rw [app_atn]; exact hw
              simp [e4, e5, e6, e7, e8, e9, e11, hml, gx, hw', app_setn]
              refine ⟨by omega, m + 1, by omega, ewm, by omega, ?_⟩
              rw [hnm]
              exact GrowB.more (f := Val.av) ht (by omega)
          · have k9 := T_rvalue24 b y U[m] hnb hyr.1
            have hc : cellJ a b x y U[m] = pickF y (idxF b.cols U[m]) := by unfold cellJ; rw [if_neg hin2]
            rw [← hc] at k9
            simp [e4, e5, e6, e7, e8, e9, e11, hml, hin2, g1', g7', hkl, ← hyy]
            refine TDK.callW k9 (Dws.self (by simp)) ?_
            rcases hg with ⟨ge, gx⟩ | ⟨t, gx, ht⟩
            · rw [avs_eq_nil] at ge
              simp [e4, e5, e6, e7, e8, e9, e11, hml, gx]
              refine ⟨m + 1, by omega, ewm, by omega, ?_⟩
              rw [hnm]
              exact GrowB.first (f := Val.av) ge rfl
            · have hw := ht
              simp only [avs_length] at hw
              have hw' : (M ++ J)[M.length + t]? = some (.spare (cl.take m).length 3) := by rw [app_atn]; exact hw
              simp [e4, e5, e6, e7, e8, e9, e11, hml, gx, hw', app_setn]
              refine ⟨by omega, m + 1, by omega, ewm, by omega, ?_⟩
              rw [hnm]
              exact GrowB.more (f := Val.av) ht (by omega)
        · have : m = U.length := by omega
          subst this
          rw [← hcll, List.take_length] at hg
          obtain ⟨own, gx⟩ := hg.own
          have hjj2 := hj.app J
          obtain ⟨Q, hQ⟩ : ∃ Q, Q = M ++ J := ⟨_, rfl⟩
          have gq7 : Q[7]? = some (.box [.sl .no (ints' U), xx]) := by rw [hQ]; exact g7' J
          have gq7' : ∀ Y : List HO, (Q ++ Y)[7]? = some (.box [.sl .no (ints' U), xx]) := fun Y => by rw [hQ, List.append_assoc]; exact g7' _
          rw [← hQ] at hjj2 ⊢
          rcases hxx with ⟨h0, hxx⟩ | ⟨t, rfl, ht⟩
          · have ex := GrowX.ex0 hxx
            subst h0
            have hR2 : R = [] := hRL.symm
            rw [hR2] at hRn
            simp [e4, e5, e6, e7, e8, e9, e11, gx, gq7, gq7', ex]
            refine ⟨k + 1, by omega, ewk, by omega, [(own, cl)], ?_, ?_⟩
            · rw [hRn]; rfl
            · exact hjj2.first rfl
          · have hqt : Q[t]? = some (.spare RL.length 1) := by rw [hQ, List.getElem?_append_left (List.getElem?_eq_some_iff.1 ht).1]; exact ht
            have ht7 : t ≠ 7 := by rintro rfl; rw [gq7] at hqt; cases hqt
            have gqs : ∀ z : HO, (Q.set t z)[7]? = some (.box [.sl .no (ints' U), .sl (.tok t) (orows RL)]) := fun z => by rw [List.getElem?_set_ne ht7]; exact gq7
            simp [e4, e5, e6, e7, e8, e9, e11, gx, gq7, gqs, hqt]
            refine ⟨⟨by omega, by omega⟩, k + 1, by omega, ewk, by omega, RL ++ [(own, cl)], ?_, ?_⟩
            · rw [hRn, List.map_append, hRL]; rfl
            · exact hjj2.more gq7 hqt rfl
    · have : k = b.rows.length := by omega
      subst this
      rw [List.take_length] at hRL
      have hnx2 : R0 ++ (b.rows.filter fun y => meetB a b x y).map (rowJ a b x) = (a.rows.take (i + 1)).flatMap (rowsJ a b) := hnx.symm
      rw [hnx2] at hRL
      have g1 := hj.g1
      simp [e4, e5, e6, e7, e8, e9, g1]
      exact ⟨i + 1, by omega, ew, by omega, RL, hRL, hj⟩
  · have : i = a.rows.length := by omega
    subst this
    rw [List.take_length] at hRL
    obtain ⟨c2, h2, g2⟩ := hj.g2
    obtain ⟨xx, g7, hxx⟩ := hj.g7
    have g0 := hj.g0
    have hxo : ∃ own, xx = .sl own (orows RL) := by
      rcases hxx with ⟨h0, h | h⟩ | ⟨t, h, _⟩
      · rw [h0]; exact ⟨_, h⟩
      · rw [h0]; exact ⟨_, h⟩
      · exact ⟨_, h⟩
    obtain ⟨own, rfl⟩ := hxo
    match c2, h2 with
    | [u0, u1], _ =>
    have gz : ∀ z : HO, (M.set 2 z)[2]? = some z := fun z => List.getElem?_set_self (List.getElem?_eq_some_iff.1 g2).1
    simp [e4, e5, e6, e7, e8, g0, g7, g2, gz]
    rw [hU]
    exact .agg (.cons (Frz.slN (f := AV.int .i64)) (.cons (Frz.slosl hRL) .nil))
end Go.Proofs.YtjplcdeaedflpaaGreatDoor.PL
namespace Go.Proofs.YtjplcdeaedflpaaGreatDoor.PL
open Go.Proofs
set_option linter.unusedVariables false
set_option linter.unusedSimpArgs false
/-- a row, with its columns -/
abbrev Ent := List Int × List Val
def getE (e : Ent) (c : Int) : Val := pickF e.2 (idxF e.1 c)
def Agree (e f : Ent) : Prop := ∀ c, c ∈ e.1 → c ∈ f.1 → getE e c = getE f c ∧ okV (getE e c) = true
def agreeB (e f : Ent) : Bool := matchV (valsF e.1 e.2 (sharedI e.1 f.1)) (valsF f.1 f.2 (sharedI e.1 f.1))
theorem sharedI_mem' {a b : List Int} {c : Int} : c ∈ sharedI a b ↔ c ∈ a ∧ c ∈ b := by
  unfold sharedI
  rw [List.mem_filter, setI_mem]
  simp
theorem agreeB_iff {e f : Ent} : agreeB e f = true ↔ Agree e f := by
  unfold agreeB matchV valsF Agree
  rw [Bool.and_eq_true, decide_eq_true_iff, List.map_inj_left, List.all_eq_true]
  constructor
  · rintro ⟨h1, h2⟩ c hc hd
    have hm := sharedI_mem'.2 ⟨hc, hd⟩
    exact ⟨h1 c hm, h2 _ (List.mem_map.2 ⟨c, hm, rfl⟩)⟩
  · intro h
    refine ⟨fun c hc => (h c (sharedI_mem'.1 hc).1 (sharedI_mem'.1 hc).2).1, fun v hv => ?_⟩
    obtain ⟨c, hc, rfl⟩ := List.mem_map.1 hv
    exact (h c (sharedI_mem'.1 hc).1 (sharedI_mem'.1 hc).2).2
theorem meetB_agree {a b : Rel} {x y : List Val} : meetB a b x y = agreeB (a.cols, x) (b.cols, y) := rfl
theorem meetB_iff {a b : Rel} {x y : List Val} : meetB a b x y = true ↔ Agree (a.cols, x) (b.cols, y) := by rw [meetB_agree, agreeB_iff]
theorem Agree.symm {e f : Ent} (h : Agree e f) : Agree f e := fun c h1 h2 => by
  obtain ⟨h3, h4⟩ := h c h2 h1
  exact ⟨h3.symm, by rw [← h3]; exact h4⟩
def consB : List Ent → Bool
  | [] => true
  | e :: t => t.all (agreeB e) && consB t
theorem consB_iff : ∀ {t : List Ent}, consB t = true ↔ t.Pairwise Agree
  | [] => by simp [consB]
  | e :: t => by
    unfold consB
    rw [Bool.and_eq_true, List.all_eq_true, List.pairwise_cons, consB_iff]
    simp only [agreeB_iff]
def valT (t : List Ent) (c : Int) : Val := match t.find? (fun e => decide (c ∈ e.1)) with | some e => getE e c | none => zV4
def rowT (C : List Int) (t : List Ent) : Option (List Val) := if consB t = true then some (C.map (valT t)) else none
def tupsR : List Rel → List (List Ent)
  | [] => [[]]
  | r :: l => r.rows.flatMap fun x => (tupsR l).map fun t => (r.cols, x) :: t
def colsL (l : List Rel) : List Int := setI (l.flatMap Rel.cols)
def allJ (l : List Rel) : Rel := l.foldl joinR ⟨[], [[]]⟩
theorem pairs_same {t : List Ent} (h : t.Pairwise Agree) {e f : Ent} (he : e ∈ t) (hf : f ∈ t) {c : Int} (hc : c ∈ e.1) (hd : c ∈ f.1) : getE e c = getE f c := by
  induction t with
  | nil => cases he
  | cons a t ih =>
    rw [List.pairwise_cons] at h
    rcases List.mem_cons.1 he with he1 | he1 <;> rcases List.mem_cons.1 hf with hf1 | hf1
    · rw [he1, hf1]
    · subst he1; exact (h.1 f hf1 c hc hd).1
    · subst hf1; exact (h.1 e he1 c hd hc).1.symm
    · exact ih h.2 he1 hf1
theorem valT_mem {t : List Ent} (h : t.Pairwise Agree) {e : Ent} (he : e ∈ t) {c : Int} (hc : c ∈ e.1) : valT t c = getE e c := by
  unfold valT
  cases hf : t.find? (fun e => decide (c ∈ e.1)) with
  | none =>
    rw [List.find?_eq_none] at hf
    exact absurd (hf e he) (by simpa using hc)
  | some g =>
    have h1 := List.mem_of_find?_eq_some hf
    have h2 := List.find?_some hf
    exact pairs_same h h1 he (by simpa using h2) hc
theorem valT_none {t : List Ent} {c : Int} (h : ∀ e, e ∈ t → c ∉ e.1) : valT t c = zV4 := by
  unfold valT
  rw [List.find?_eq_none.2 fun e he => by simpa using h e he]
theorem valT_app {t s : List Ent} {c : Int} (h : ∃ e, e ∈ t ∧ c ∈ e.1) : valT (t ++ s) c = valT t c := by
  unfold valT
  rw [List.find?_append]
  cases hf : t.find? (fun e => decide (c ∈ e.1)) with
  | none =>
    rw [List.find?_eq_none] at hf
    obtain ⟨e, he, hc⟩ := h
    exact absurd (hf e he) (by simpa using hc)
  | some g => rfl
theorem valT_app2 {t s : List Ent} {c : Int} (h : ∀ e, e ∈ t → c ∉ e.1) : valT (t ++ s) c = valT s c := by
  unfold valT
  rw [List.find?_append, List.find?_eq_none.2 fun e he => by simpa using h e he]
  rfl
theorem get_map {C : List Int} {g : Int → Val} {c : Int} (h : c ∈ C) : pickF (C.map g) (idxF C c) = g c := by
  obtain ⟨i, hi, h1, h2⟩ := idxF_at h
  rw [h2, pickF_in (by simpa using hi)]
  simp [h1]
theorem tups_snoc (l : List Rel) (r : Rel) : tupsR (l ++ [r]) = (tupsR l).flatMap fun t => r.rows.map fun x => t ++ [(r.cols, x)] := by
  induction l with
  | nil => simp [tupsR, List.flatMap_def, List.map_map, Function.comp_def]; induction r.rows <;> simp_all
  | cons a l ih =>
    rw [List.cons_append]
    unfold tupsR
    rw [ih, List.flatMap_assoc]
    congr 1
    funext x
    rw [List.flatMap_map, List.map_flatMap]
    simp [List.map_map, Function.comp_def]
theorem tups_mem {t : List Ent} : ∀ {l : List Rel}, t ∈ tupsR l ↔ t.length = l.length ∧ ∀ i (h : i < t.length) (h' : i < l.length), t[i].1 = l[i].cols ∧ t[i].2 ∈ l[i].rows := by
  induction t with
  | nil =>
    intro l
    cases l with
    | nil => simp [tupsR]
    | cons r l =>
      simp [tupsR]
  | cons e t ih =>
    intro l
    cases l with
    | nil => simp [tupsR]
    | cons r l =>
      unfold tupsR
      rw [List.mem_flatMap]
      constructor
      · rintro ⟨x, hx, ht⟩
        rw [List.mem_map] at ht
        obtain ⟨t', ht', he⟩ := ht
        cases he
        obtain ⟨h1, h2⟩ := ih.1 ht'
        refine ⟨by simp [h1], fun i hi hi' => ?_⟩
        cases i with
        | zero => exact ⟨rfl, hx⟩
        | succ i => simpa using h2 i (by simpa using hi) (by simpa using hi')
      · rintro ⟨h1, h2⟩
        have h0 := h2 0 (by simp) (by simp)
        refine ⟨e.2, h0.2, List.mem_map.2 ⟨t, ih.2 ⟨by simpa using h1, fun i hi hi' => ?_⟩, ?_⟩⟩
        · have := h2 (i + 1) (by simpa using hi) (by simpa using hi')
          rwa [List.getElem_cons_succ, List.getElem_cons_succ] at this
        · rw [show r.cols = e.1 from h0.1.symm]
theorem tups_cols {t : List Ent} {l : List Rel} (h : t ∈ tupsR l) {c : Int} : c ∈ colsL l ↔ ∃ e, e ∈ t ∧ c ∈ e.1 := by
  obtain ⟨h1, h2⟩ := tups_mem.1 h
  unfold colsL
  rw [setI_mem, List.mem_flatMap]
  constructor
  · rintro ⟨r, hr, hc⟩
    obtain ⟨i, hi, rfl⟩ := List.getElem_of_mem hr
    exact ⟨t[i], List.getElem_mem _, by rw [(h2 i (by omega) hi).1]; exact hc⟩
  · rintro ⟨e, he, hc⟩
    obtain ⟨i, hi, rfl⟩ := List.getElem_of_mem he
    exact ⟨l[i], List.getElem_mem _, by rw [← (h2 i hi (by omega)).1]; exact hc⟩
theorem filt_map {α β : Type} (p : α → Bool) (f : α → β) (l : List α) : (l.filter p).map f = l.filterMap fun x => if p x = true then some (f x) else none := by
  induction l with
  | nil => rfl
  | cons a l ih =>
    cases h : p a <;> simp [h, ih]
theorem consB_snoc {t : List Ent} {e : Ent} : consB (t ++ [e]) = true ↔ consB t = true ∧ ∀ f, f ∈ t → Agree f e := by
  rw [consB_iff, consB_iff, List.pairwise_append]
  simp
theorem step_one {l : List Rel} {r : Rel} {R : List (List Val)} {t : List Ent} (ht : t ∈ tupsR l) : (match rowT (colsL l) t with | some row => rowsJ ⟨colsL l, R⟩ r row | none => []) = (r.rows.map fun x => t ++ [(r.cols, x)]).filterMap (rowT (setI (colsL l ++ r.cols))) := by
  rw [List.filterMap_map]
  have hcol := @tups_cols t l ht
  cases hc : consB t with
  | false =>
    have : rowT (colsL l) t = none := by unfold rowT; rw [hc]; rfl
    rw [this]
    symm
    show _ = []
    rw [List.filterMap_eq_nil_iff]
    intro x _
    show rowT _ (t ++ [(r.cols, x)]) = none
    unfold rowT
    rw [if_neg]
    rw [consB_snoc, hc]
    simp
  | true =>
    have : rowT (colsL l) t = some ((colsL l).map (valT t)) := by unfold rowT; rw [hc]; rfl
    rw [this]
    show rowsJ _ _ _ = _
    unfold rowsJ
    rw [filt_map]
    congr 1
    funext x
    show _ = rowT _ (t ++ [(r.cols, x)])
    have hp := consB_iff.1 hc
    have hget : ∀ c, c ∈ colsL l → getE (colsL l, (colsL l).map (valT t)) c = valT t c := fun c hc => get_map hc
    have hiff : meetB ⟨colsL l, R⟩ r ((colsL l).map (valT t)) x = true ↔ ∀ f, f ∈ t → Agree f (r.cols, x) := by
      rw [meetB_iff]
      constructor
      · intro h f hf c h1 h2
        have hcl := hcol.2 ⟨f, hf, h1⟩
        have := h c hcl h2
        rw [hget c hcl, valT_mem hp hf h1] at this
        exact this
      · intro h c h1 h2
        obtain ⟨f, hf, h3⟩ := hcol.1 h1
        rw [hget c h1, valT_mem hp hf h3]
        exact h f hf c h3 h2
    unfold rowT
    by_cases hm : meetB ⟨colsL l, R⟩ r ((colsL l).map (valT t)) x = true
    · rw [if_pos hm, if_pos (consB_snoc.2 ⟨hc, hiff.1 hm⟩)]
      congr 1
      unfold rowJ colsJ
      apply List.map_congr_left
      intro c hcm
      rw [setI_mem, List.mem_append] at hcm
      unfold cellJ
      by_cases hcl : c ∈ colsL l
      · rw [if_pos hcl, valT_app (hcol.1 hcl)]
        exact hget c hcl
      · rw [if_neg hcl, valT_app2 fun e he h => hcl (hcol.2 ⟨e, he, h⟩)]
        have hr : c ∈ r.cols := hcm.resolve_left hcl
        exact (valT_mem (t := [(r.cols, x)]) (List.pairwise_singleton _ _) List.mem_cons_self hr).symm
    · rw [if_neg hm, if_neg fun h => hm (hiff.2 (consB_snoc.1 h).2)]
theorem step_all {l : List Rel} {r : Rel} {R : List (List Val)} : ∀ T : List (List Ent), (∀ t, t ∈ T → t ∈ tupsR l) → (T.filterMap (rowT (colsL l))).flatMap (rowsJ ⟨colsL l, R⟩ r) = (T.flatMap fun t => r.rows.map fun x => t ++ [(r.cols, x)]).filterMap (rowT (setI (colsL l ++ r.cols)))
  | [], _ => rfl
  | t :: T, h => by
    have h1 := step_one (r := r) (R := R) (h t List.mem_cons_self)
    have h2 := step_all (l := l) (r := r) (R := R) T fun t ht => h t (List.mem_cons_of_mem _ ht)
    rw [List.flatMap_cons, List.filterMap_append, ← h2, ← h1, List.filterMap_cons]
    cases rowT (colsL l) t <;> simp
theorem colsL_snoc (l : List Rel) (r : Rel) : colsL (l ++ [r]) = setI (colsL l ++ r.cols) := by
  refine rises_eq (setI_rises _) (setI_rises _) fun x => ?_
  rw [colsL, setI_mem, setI_mem, List.mem_append, colsL, setI_mem, List.flatMap_append]
  simp
theorem allJ_snoc (l : List Rel) (r : Rel) : allJ (l ++ [r]) = joinR (allJ l) r := by unfold allJ; rw [List.foldl_append]; rfl
theorem allJ_eq : ∀ (n : Nat) (l : List Rel), l.length = n → allJ l = ⟨colsL l, (tupsR l).filterMap (rowT (colsL l))⟩
  | 0, l, h => by
    obtain rfl := List.eq_nil_of_length_eq_zero h
    simp [allJ, colsL, tupsR, rowT, consB, setI]
  | n + 1, l, h => by
    rcases List.eq_nil_or_concat l with rfl | ⟨l, r, rfl⟩
    · cases h
    rw [List.concat_eq_append] at h ⊢
    have ih := allJ_eq n l (by simpa using h)
    rw [allJ_snoc, ih, tups_snoc, colsL_snoc]
    unfold joinR
    rw [← step_all (l := l) (r := r) (R := (tupsR l).filterMap (rowT (colsL l))) _ fun t h => h]
    rfl
theorem allJ_rows (l : List Rel) : (allJ l).rows = (tupsR l).filterMap (rowT (colsL l)) := by rw [allJ_eq _ l rfl]
theorem allJ_cols (l : List Rel) : (allJ l).cols = colsL l := by rw [allJ_eq _ l rfl]
theorem perm_flat {α β : Type} {f g : α → List β} : ∀ {l : List α}, (∀ x, x ∈ l → (f x).Perm (g x)) → (l.flatMap f).Perm (l.flatMap g)
  | [], _ => .refl _
  | a :: l, h => by
    rw [List.flatMap_cons, List.flatMap_cons]
    exact (h a List.mem_cons_self).append (perm_flat fun x hx => h x (List.mem_cons_of_mem _ hx))
theorem flat_two {α β : Type} {f g : α → List β} : ∀ {l : List α}, (l.flatMap f ++ l.flatMap g).Perm (l.flatMap fun x => f x ++ g x)
  | [] => .refl _
  | a :: l => by
    rw [List.flatMap_cons, List.flatMap_cons, List.flatMap_cons, List.append_assoc, List.append_assoc]
    refine List.Perm.append_left _ ?_
    rw [← List.append_assoc]
    refine (List.perm_append_comm.append_right _).trans ?_
    rw [List.append_assoc]
    exact List.Perm.append_left _ flat_two
theorem flat_comm {α β γ : Type} {f : α → β → List γ} {m : List β} : ∀ {l : List α}, (l.flatMap fun x => m.flatMap fun y => f x y).Perm (m.flatMap fun y => l.flatMap fun x => f x y)
  | [] => by simp
  | a :: l => by
    simp only [List.flatMap_cons]
    exact (List.Perm.append_left _ flat_comm).trans flat_two
theorem tups_cons_map {β : Type} (f : List Ent → Option β) (r : Rel) (l : List Rel) : (tupsR (r :: l)).filterMap f = r.rows.flatMap fun x => (tupsR l).filterMap fun t => f ((r.cols, x) :: t) := by
  rw [show tupsR (r :: l) = r.rows.flatMap fun x => (tupsR l).map fun t => (r.cols, x) :: t from rfl, List.filterMap_flatMap]
  simp only [List.filterMap_map, Function.comp_def]
theorem tups_perm {l l' : List Rel} (h : l.Perm l') : ∀ {β : Type} (f : List Ent → Option β), (∀ t t', t.Perm t' → f t = f t') → ((tupsR l).filterMap f).Perm ((tupsR l').filterMap f) := by
  induction h with
  | nil => intro β f hf; exact .refl _
  | cons r h ih =>
    intro β f hf
    rw [tups_cons_map, tups_cons_map]
    exact perm_flat fun x _ => ih _ fun t t' ht => hf _ _ (ht.cons _)
  | swap r s l =>
    intro β f hf
    rw [tups_cons_map, tups_cons_map]
    simp only [tups_cons_map]
    refine flat_comm.trans (perm_flat fun x _ => perm_flat fun y _ => ?_)
    have : (fun t => f ((s.cols, y) :: (r.cols, x) :: t)) = fun t => f ((r.cols, x) :: (s.cols, y) :: t) := by
      funext t
      exact hf _ _ (.swap _ _ _)
    rw [this]
  | trans _ _ ih1 ih2 => intro β f hf; exact (ih1 f hf).trans (ih2 f hf)
theorem rowT_perm (C : List Int) (t t' : List Ent) (h : t.Perm t') : rowT C t = rowT C t' := by
  have hc : consB t = true ↔ consB t' = true := by
    rw [consB_iff, consB_iff]
    exact h.pairwise_iff fun h => h.symm
  unfold rowT
  by_cases h1 : consB t = true
  · rw [if_pos h1, if_pos (hc.1 h1)]
    congr 1
    apply List.map_congr_left
    intro c _
    by_cases h2 : ∃ e, e ∈ t ∧ c ∈ e.1
    · obtain ⟨e, he, hce⟩ := h2
      rw [valT_mem (consB_iff.1 h1) he hce, valT_mem (consB_iff.1 (hc.1 h1)) (h.mem_iff.1 he) hce]
    · rw [valT_none fun e he hce => h2 ⟨e, he, hce⟩, valT_none fun e he hce => h2 ⟨e, h.mem_iff.2 he, hce⟩]
  · rw [if_neg h1, if_neg fun h => h1 (hc.2 h)]
theorem colsL_perm {l l' : List Rel} (h : l.Perm l') : colsL l = colsL l' := by
  refine rises_eq (setI_rises _) (setI_rises _) fun x => ?_
  unfold colsL
  rw [setI_mem, setI_mem, List.mem_flatMap, List.mem_flatMap]
  constructor
  · rintro ⟨r, hr, hx⟩; exact ⟨r, h.mem_iff.1 hr, hx⟩
  · rintro ⟨r, hr, hx⟩; exact ⟨r, h.mem_iff.2 hr, hx⟩
theorem allJ_perm {l l' : List Rel} (h : l.Perm l') : (allJ l).cols = (allJ l').cols ∧ (allJ l).rows.Perm (allJ l').rows := by
  rw [allJ_cols, allJ_cols, allJ_rows, allJ_rows, colsL_perm h]
  exact ⟨rfl, tups_perm h _ (rowT_perm _)⟩
end Go.Proofs.YtjplcdeaedflpaaGreatDoor.PL
namespace Go.Proofs.YtjplcdeaedflpaaGreatDoor.PL
open Go.Proofs
set_option linter.unusedVariables false
set_option linter.unusedSimpArgs false
abbrev semiR (a b : Rel) : Rel := someR a b true
theorem rightR_of {r : Rel} (h1 : r.cols.Pairwise (· < ·)) (h2 : ∀ l, l ∈ r.rows → l.length = r.cols.length) : rightR r = true := by
  unfold rightR risesB
  rw [Bool.and_eq_true, decide_eq_true_iff]
  refine ⟨h1, ?_⟩
  rw [Bool.not_eq_true', List.any_eq_false]
  intro x hx
  simp [wideB, h2 x hx]
theorem some_right {a b : Rel} {w : Bool} (h : rightR a = true) : rightR (someR a b w) = true :=
  rightR_of (r := someR a b w) (by have := rightR_rises h; exact this) fun l hl => rightR_row h (List.mem_filter.1 hl).1
theorem join_right (a b : Rel) : rightR (joinR a b) = true := by
  refine rightR_of (setI_rises _) fun l hl => ?_
  obtain ⟨x, _, hx⟩ := List.mem_flatMap.1 hl
  obtain ⟨y, _, rfl⟩ := List.mem_map.1 hx
  simp [rowJ, joinR]
theorem zero_right : rightR zR = true := by decide
theorem held_self (r : Rel) : heldR (heldR r) = heldR r := heldR_of (heldR_right r)
/-- a halved step -/
def stepJ (l : List Rel) (h : Int × Int) : List Rel :=
  if h.1 ≠ h.2 ∧ 0 ≤ h.1 ∧ h.1 < l.length ∧ 0 ≤ h.2 ∧ h.2 < l.length then l.set h.1.toNat (semiR (heldR (l.getD h.1.toNat zR)) (heldR (l.getD h.2.toNat zR))) else l
def playJ (l : List Rel) (prog : List (Int × Int)) : List Rel := prog.foldl stepJ l
theorem stepJ_len (l : List Rel) (h : Int × Int) : (stepJ l h).length = l.length := by unfold stepJ; split <;> simp
theorem playJ_len (prog : List (Int × Int)) : ∀ l, (playJ l prog).length = l.length := by
  induction prog with
  | nil => intro l; rfl
  | cons h prog ih => intro l; show (playJ (stepJ l h) prog).length = _; rw [ih, stepJ_len]
theorem playJ_snoc (l : List Rel) (prog : List (Int × Int)) (h : Int × Int) : playJ l (prog ++ [h]) = stepJ (playJ l prog) h := by unfold playJ; rw [List.foldl_append]; rfl
theorem playJ_app (l : List Rel) (p q : List (Int × Int)) : playJ l (p ++ q) = playJ (playJ l p) q := by unfold playJ; rw [List.foldl_append]
theorem stepJ_held (l : List Rel) (h : Int × Int) : (stepJ l h).map heldR = stepJ (l.map heldR) h := by
  unfold stepJ
  rw [List.length_map]
  split
  · rename_i hc
    rw [List.map_set, heldR_of (some_right (heldR_right _))]
    have e : ∀ k : Nat, (l.map heldR).getD k zR = heldR (l.getD k zR) := fun k => by
      rw [List.getD_eq_getElem?_getD, List.getD_eq_getElem?_getD, List.getElem?_map]
      cases l[k]? <;> simp [heldR_of zero_right]
    rw [e, e, held_self, held_self]
  · rfl
theorem playJ_held (prog : List (Int × Int)) : ∀ l, (playJ l prog).map heldR = playJ (l.map heldR) prog := by
  induction prog with
  | nil => intro l; rfl
  | cons h prog ih => intro l; show (playJ (stepJ l h) prog).map heldR = playJ (stepJ (l.map heldR) h) prog; rw [ih, stepJ_held]
def AllRight (l : List Rel) : Prop := ∀ r, r ∈ l → rightR r = true
theorem AllRight.map {l : List Rel} (h : AllRight l) : l.map heldR = l := by
  have e : l.map heldR = l.map id := List.map_congr_left fun r hr => heldR_of (h r hr)
  rw [e, List.map_id]
theorem AllRight.held (l : List Rel) : AllRight (l.map heldR) := fun r hr => by
  obtain ⟨x, _, rfl⟩ := List.mem_map.1 hr
  exact heldR_right x
theorem AllRight.set {l : List Rel} (h : AllRight l) {k : Nat} {r : Rel} (hr : rightR r = true) : AllRight (l.set k r) := fun x hx => by
  rcases List.mem_or_eq_of_mem_set hx with hx | rfl
  · exact h x hx
  · exact hr
theorem stepJ_right {l : List Rel} (h : AllRight l) (p : Int × Int) : AllRight (stepJ l p) := by
  unfold stepJ
  split
  · exact h.set (some_right (heldR_right _))
  · exact h
theorem playJ_right (prog : List (Int × Int)) : ∀ {l : List Rel}, AllRight l → AllRight (playJ l prog) := by
  induction prog with
  | nil => intro l h; exact h
  | cons p prog ih => intro l h; exact ih (stepJ_right h p)
/-- fewer rows, and none gone that takes part -/
structure Less (l' l : List Rel) : Prop where
  len : l'.length = l.length
  at' : ∀ i (h : i < l.length), ∃ Q : List Val → Bool, l'.getD i zR = ⟨(l.getD i zR).cols, (l.getD i zR).rows.filter Q⟩
  cons : ∀ t, consB t = true → t ∈ tupsR l → t ∈ tupsR l'
theorem all_kept (r : Rel) : r = ⟨r.cols, r.rows.filter fun _ => true⟩ := by
  have : r.rows.filter (fun _ => true) = r.rows := List.filter_eq_self.2 fun _ _ => rfl
  rw [this]
theorem Less.refl (l : List Rel) : Less l l := ⟨rfl, fun i h => ⟨fun _ => true, all_kept _⟩, fun t _ h => h⟩
theorem Less.trans {a b c : List Rel} (h : Less a b) (k : Less b c) : Less a c := by
  refine ⟨h.len.trans k.len, fun i hi => ?_, fun t hc ht => h.cons t hc (k.cons t hc ht)⟩
  obtain ⟨Q, hQ⟩ := h.at' i (by rw [k.len]; exact hi)
  obtain ⟨W, hW⟩ := k.at' i hi
  refine ⟨fun x => W x && Q x, ?_⟩
  rw [hQ, hW]
  simp [List.filter_filter, Bool.and_comm]
theorem getD_ltR {l : List Rel} {i : Nat} (h : i < l.length) : l.getD i zR = l[i] := by rw [List.getD_eq_getElem?_getD, List.getElem?_eq_getElem h]; rfl
theorem Less.cols {a b : List Rel} (h : Less a b) (i : Nat) : (a.getD i zR).cols = (b.getD i zR).cols := by
  rcases Nat.lt_or_ge i b.length with hi | hi
  · obtain ⟨Q, hQ⟩ := h.at' i hi
    rw [hQ]
  · rw [List.getD_eq_getElem?_getD, List.getD_eq_getElem?_getD, List.getElem?_eq_none hi, List.getElem?_eq_none (by rw [h.len]; exact hi)]
theorem Less.mem {a b : List Rel} (h : Less a b) {i : Nat} {x : List Val} (hx : x ∈ (a.getD i zR).rows) : x ∈ (b.getD i zR).rows := by
  rcases Nat.lt_or_ge i b.length with hi | hi
  · obtain ⟨Q, hQ⟩ := h.at' i hi
    rw [hQ] at hx
    exact (List.mem_filter.1 hx).1
  · rw [List.getD_eq_getElem?_getD, List.getElem?_eq_none (by rw [h.len]; exact hi)] at hx
    simp [zR] at hx
theorem tups_get {t : List Ent} {l : List Rel} (h : t ∈ tupsR l) {i : Nat} (hi : i < l.length) : ∃ x, x ∈ (l.getD i zR).rows ∧ t[i]? = some ((l.getD i zR).cols, x) := by
  obtain ⟨h1, h2⟩ := tups_mem.1 h
  obtain ⟨e1, e2⟩ := h2 i (by omega) hi
  rw [getD_ltR hi]
  exact ⟨_, e2, by rw [List.getElem?_eq_getElem (by omega), ← e1]⟩
theorem tups_of {t : List Ent} {l : List Rel} (h : t.length = l.length) (h2 : ∀ i, i < l.length → ∃ x, x ∈ (l.getD i zR).rows ∧ t[i]? = some ((l.getD i zR).cols, x)) : t ∈ tupsR l := by
  refine tups_mem.2 ⟨h, fun i hi hi' => ?_⟩
  obtain ⟨x, hx, hg⟩ := h2 i hi'
  rw [List.getElem?_eq_getElem hi, getD_ltR hi'] at hg
  rw [getD_ltR hi'] at hx
  rw [Option.some.inj hg]
  exact ⟨rfl, hx⟩
theorem getD_setR {l : List Rel} {i k : Nat} {r : Rel} (hk : k < l.length) : (l.set k r).getD i zR = if i = k then r else l.getD i zR := by
  rw [List.getD_eq_getElem?_getD, List.getD_eq_getElem?_getD, List.getElem?_set]
  by_cases h : k = i
  · subst h; simp [hk]
  · have : ¬ i = k := fun e => h e.symm
    simp [h, this]
theorem semi_less {l : List Rel} {i k : Nat} (hi : i < l.length) (hk : k < l.length) (hik : i ≠ k) : Less (l.set i (semiR (l.getD i zR) (l.getD k zR))) l := by
  refine ⟨by simp, fun j hj => ?_, fun t hc ht => ?_⟩
  · rw [getD_setR hi]
    by_cases h : j = i
    · subst h
      rw [if_pos rfl]
      exact ⟨_, rfl⟩
    · rw [if_neg h]
      exact ⟨fun _ => true, all_kept _⟩
  · refine tups_of (by rw [List.length_set]; exact (tups_mem.1 ht).1) fun j hj => ?_
    rw [List.length_set] at hj
    obtain ⟨x, hx, hg⟩ := tups_get ht hj
    rw [getD_setR hi]
    by_cases h : j = i
    · subst h
      rw [if_pos rfl]
      refine ⟨x, List.mem_filter.2 ⟨hx, ?_⟩, hg⟩
      obtain ⟨y, hy, hgy⟩ := tups_get ht hk
      have hp := consB_iff.1 hc
      rw [List.pairwise_iff_getElem] at hp
      have hl := (tups_mem.1 ht).1
      have hag : Agree ((l.getD j zR).cols, x) ((l.getD k zR).cols, y) := by
        rw [List.getElem?_eq_getElem (by omega)] at hg hgy
        have e1 := Option.some.inj hg
        have e2 := Option.some.inj hgy
        rw [← e1, ← e2]
        rcases Nat.lt_or_gt_of_ne hik with h | h
        · exact hp j k _ _ h
        · exact (hp k j _ _ h).symm
      simp only [beq_true]
      exact List.any_eq_true.2 ⟨y, hy, meetB_iff.2 hag⟩
    · rw [if_neg h]
      exact ⟨x, hx, hg⟩
theorem held_getD {l : List Rel} (hr : AllRight l) (k : Nat) : heldR (l.getD k zR) = l.getD k zR := by
  rcases Nat.lt_or_ge k l.length with h | h
  · rw [getD_ltR h]; exact heldR_of (hr _ (List.getElem_mem h))
  · rw [List.getD_eq_getElem?_getD, List.getElem?_eq_none h]; exact heldR_of zero_right
theorem step_less {l : List Rel} (hr : AllRight l) (h : Int × Int) : Less (stepJ l h) l := by
  unfold stepJ
  split
  · rename_i hc
    rw [held_getD hr, held_getD hr]
    exact semi_less (by omega) (by omega) (by omega)
  · exact .refl l
theorem play_less (prog : List (Int × Int)) : ∀ {l : List Rel}, AllRight l → Less (playJ l prog) l := by
  induction prog with
  | nil => intro l _; exact .refl l
  | cons h prog ih => intro l hr; exact (ih (stepJ_right hr h)).trans (step_less hr h)
theorem colsL_getD (l : List Rel) {c : Int} : c ∈ colsL l ↔ ∃ i, i < l.length ∧ c ∈ (l.getD i zR).cols := by
  unfold colsL
  rw [setI_mem, List.mem_flatMap]
  constructor
  · rintro ⟨r, hr, hc⟩
    obtain ⟨i, hi, rfl⟩ := List.getElem_of_mem hr
    exact ⟨i, hi, by rw [getD_ltR hi]; exact hc⟩
  · rintro ⟨i, hi, hc⟩
    exact ⟨l[i], List.getElem_mem _, by rw [← getD_ltR hi]; exact hc⟩
theorem Less.same {a b : List Rel} (h : Less a b) : colsL a = colsL b := by
  refine rises_eq (setI_rises _) (setI_rises _) fun x => ?_
  show x ∈ colsL a ↔ x ∈ colsL b
  rw [colsL_getD, colsL_getD, h.len]
  simp only [h.cols]
theorem flat_filter {α β : Type} {p : β → Bool} {f : α → List β} (l : List α) : (l.flatMap f).filter p = l.flatMap fun x => (f x).filter p := by
  induction l with
  | nil => rfl
  | cons a l ih => rw [List.flatMap_cons, List.flatMap_cons, List.filter_append, ih]
theorem filter_flat {α β : Type} {p : α → Bool} {f : α → List β} (l : List α) : (l.filter p).flatMap f = l.flatMap fun x => if p x = true then f x else [] := by
  induction l with
  | nil => rfl
  | cons a l ih =>
    rw [List.flatMap_cons, ← ih]
    cases h : p a <;> simp [h]
theorem tups_set (q : List Val → Bool) : ∀ (l : List Rel) (i : Nat), i < l.length → tupsR (l.set i ⟨(l.getD i zR).cols, (l.getD i zR).rows.filter q⟩) = (tupsR l).filter fun t => q (t.getD i ([], [])).2
  | r :: l, 0, _ => by
    show (r.rows.filter q).flatMap (fun x => (tupsR l).map fun t => (r.cols, x) :: t) = (r.rows.flatMap fun x => (tupsR l).map fun t => (r.cols, x) :: t).filter _
    rw [flat_filter, filter_flat]
    congr 1
    funext x
    rw [List.filter_map]
    cases h : q x with
    | true =>
      rw [if_pos rfl]
      congr 1
      symm
      rw [List.filter_eq_self]
      intro t _
      exact h
    | false =>
      rw [if_neg (by simp)]
      symm
      rw [List.map_eq_nil_iff, List.filter_eq_nil_iff]
      intro t _
      show ¬ q x = true
      rw [h]; simp
  | r :: l, i + 1, hi => by
    have ih := tups_set q l i (by simpa using hi)
    show r.rows.flatMap (fun x => (tupsR (l.set i ⟨(l.getD i zR).cols, (l.getD i zR).rows.filter q⟩)).map fun t => (r.cols, x) :: t) = (r.rows.flatMap fun x => (tupsR l).map fun t => (r.cols, x) :: t).filter _
    rw [flat_filter, ih]
    congr 1
    funext x
    rw [List.filter_map]
    rfl
theorem fmap_congr {α β : Type} {f g : α → Option β} : ∀ {l : List α}, (∀ x, x ∈ l → f x = g x) → l.filterMap f = l.filterMap g
  | [], _ => rfl
  | a :: l, h => by rw [List.filterMap_cons, List.filterMap_cons, h a List.mem_cons_self, fmap_congr fun x hx => h x (List.mem_cons_of_mem _ hx)]
theorem less_rows {l : List Rel} {i : Nat} {q : List Val → Bool} (hi : i < l.length) (h : Less (l.set i ⟨(l.getD i zR).cols, (l.getD i zR).rows.filter q⟩) l) (C : List Int) : (tupsR (l.set i ⟨(l.getD i zR).cols, (l.getD i zR).rows.filter q⟩)).filterMap (rowT C) = (tupsR l).filterMap (rowT C) := by
  have hc := h.cons
  rw [tups_set q l i hi] at hc ⊢
  rw [List.filterMap_filter]
  apply fmap_congr
  intro t ht
  split
  · rfl
  · rename_i hq
    unfold rowT
    split
    · rename_i hct
      exact absurd (List.mem_filter.1 (hc t hct ht)).2 hq
    · rfl
theorem step_rows {l : List Rel} (hr : AllRight l) (h : Int × Int) (C : List Int) : (tupsR (stepJ l h)).filterMap (rowT C) = (tupsR l).filterMap (rowT C) := by
  have hl := step_less hr h
  unfold stepJ at hl ⊢
  split
  · rename_i hc
    rw [if_pos hc] at hl
    rw [held_getD hr, held_getD hr] at hl ⊢
    exact less_rows (by omega) hl C
  · rfl
theorem play_rows (prog : List (Int × Int)) (C : List Int) : ∀ {l : List Rel}, AllRight l → (tupsR (playJ l prog)).filterMap (rowT C) = (tupsR l).filterMap (rowT C) := by
  induction prog with
  | nil => intro l _; rfl
  | cons h prog ih => intro l hr; exact (ih (stepJ_right hr h)).trans (step_rows hr h C)
/-- no program takes a row from all together -/
theorem play_all (prog : List (Int × Int)) {l : List Rel} (hr : AllRight l) : allJ (playJ l prog) = allJ l := by
  have h := play_less prog hr
  rw [allJ_eq _ _ rfl, allJ_eq _ l rfl, h.same, play_rows prog _ hr]
end Go.Proofs.YtjplcdeaedflpaaGreatDoor.PL
namespace Go.Proofs.YtjplcdeaedflpaaGreatDoor.PL
open Go.Proofs
set_option linter.unusedVariables false
set_option linter.unusedSimpArgs false
theorem vals_self {cols : List Int} {x : List Val} (hn : cols.Pairwise (· < ·)) (hl : x.length = cols.length) : (cols.map fun c => pickF x (idxF cols c)) = x := by
  have hnd : cols.Nodup := hn.imp fun h => by omega
  apply List.ext_getElem
  · simp [hl]
  · intro i h1 h2
    rw [List.getElem_map]
    have hi : i < cols.length := by omega
    obtain ⟨j, hj, e1, e2⟩ := idxF_at (List.getElem_mem hi)
    have : j = i := (List.getElem_inj hnd).1 e1
    subst this
    rw [e2, pickF_in h2]
theorem setI_self4 {l : List Int} (h : l.Pairwise (· < ·)) : setI l = l := rises_eq (setI_rises l) h fun x => setI_mem
theorem join_unit {r : Rel} (h : rightR r = true) : joinR ⟨[], [[]]⟩ r = r := by
  have hc : colsJ ⟨[], [[]]⟩ r = r.cols := by unfold colsJ; rw [List.nil_append]; exact setI_self4 (rightR_rises h)
  unfold joinR rowsJ rowJ
  rw [hc]
  have hm : ∀ y, meetB ⟨[], [[]]⟩ r [] y = true := fun y => meetB_iff.2 fun c h => by cases h
  have hf : r.rows.filter (fun y => meetB ⟨[], [[]]⟩ r [] y) = r.rows := List.filter_eq_self.2 fun y _ => hm y
  rw [List.flatMap_cons, List.flatMap_nil, List.append_nil, hf]
  have e : r.rows.map (fun y => r.cols.map (cellJ ⟨[], [[]]⟩ r [] y)) = r.rows.map id := by
    apply List.map_congr_left
    intro y hy
    have : r.cols.map (cellJ ⟨[], [[]]⟩ r [] y) = r.cols.map fun c => pickF y (idxF r.cols c) := by
      apply List.map_congr_left
      intro c _
      rfl
    rw [this, vals_self (rightR_rises h) (rightR_row h hy)]
    rfl
  rw [e, List.map_id]
theorem allJ_one {r : Rel} (h : rightR r = true) : allJ [r] = r := join_unit h
theorem allJ_right (l : List Rel) : rightR (allJ l) = true := by
  rcases List.eq_nil_or_concat l with rfl | ⟨l, r, rfl⟩
  · decide
  · rw [List.concat_eq_append, allJ_snoc]; exact join_right _ _
/-- the product of all rows, and one each -/
def prodR : List Rel → Nat
  | [] => 1
  | r :: l => (r.rows.length + 1) * prodR l
theorem prodR_pos : ∀ l : List Rel, 0 < prodR l
  | [] => by simp [prodR]
  | r :: l => Nat.mul_pos (by omega) (prodR_pos l)
theorem flat_le {α β : Type} {f : α → List β} {k : Nat} : ∀ {l : List α}, (∀ x, x ∈ l → (f x).length ≤ k) → (l.flatMap f).length ≤ l.length * k
  | [], _ => by simp
  | a :: l, h => by
    have h1 := h a List.mem_cons_self
    have h2 := flat_le (f := f) (k := k) fun x hx => h x (List.mem_cons_of_mem _ hx)
    rw [List.flatMap_cons, List.length_append, List.length_cons, Nat.add_mul]
    omega
theorem tups_len : ∀ l : List Rel, (tupsR l).length ≤ prodR l
  | [] => by simp [tupsR, prodR]
  | r :: l => by
    have ih := tups_len l
    have h1 : (tupsR (r :: l)).length ≤ r.rows.length * (tupsR l).length :=
      flat_le (f := fun x => (tupsR l).map fun t => (r.cols, x) :: t) fun x _ => by rw [List.length_map]; exact Nat.le_refl _
    have h2 : r.rows.length * (tupsR l).length ≤ (r.rows.length + 1) * prodR l := Nat.mul_le_mul (by omega) ih
    show _ ≤ (r.rows.length + 1) * prodR l
    omega
theorem allJ_len (l : List Rel) : (allJ l).rows.length ≤ prodR l := by
  rw [allJ_rows]
  exact Nat.le_trans (List.length_filterMap_le ..) (tups_len l)
theorem prodR_perm {l l' : List Rel} (h : l.Perm l') : prodR l = prodR l' := by
  induction h with
  | nil => rfl
  | cons r _ ih => show _ * prodR _ = _ * prodR _; rw [ih]
  | swap r s l => show _ * (_ * prodR _) = _ * (_ * prodR _); rw [Nat.mul_left_comm]
  | trans _ _ h1 h2 => exact h1.trans h2
theorem prodR_take (l : List Rel) : ∀ k, prodR (l.take k) ≤ prodR l := by
  induction l with
  | nil => intro k; simp
  | cons r l ih =>
    intro k
    cases k with
    | zero => exact prodR_pos _
    | succ k => exact Nat.mul_le_mul_left _ (ih k)
theorem held_rows (r : Rel) : (heldR r).rows.length ≤ r.rows.length := by unfold heldR; split <;> simp [zR]
theorem held_cols (r : Rel) : (heldR r).cols.length ≤ r.cols.length := by unfold heldR; split <;> simp [zR]
theorem prodR_held (l : List Rel) : prodR (l.map heldR) ≤ prodR l := by
  induction l with
  | nil => exact Nat.le_refl _
  | cons r l ih =>
    have := held_rows r
    exact Nat.mul_le_mul (by omega) ih
/-- what is asked of some in the proofs -/
structure OkL (l : List Rel) : Prop where
  ok : ∀ r, r ∈ l → OkR r
  nc : ∀ r, r ∈ l → r.cols.length ≤ 20
  len : l.length ≤ 40
  pr : prodR l ≤ 100000
theorem OkL.take {l : List Rel} (h : OkL l) (k : Nat) : OkL (l.take k) :=
  ⟨fun r hr => h.ok r (List.mem_of_mem_take hr), fun r hr => h.nc r (List.mem_of_mem_take hr), by have := h.len; rw [List.length_take]; omega, Nat.le_trans (prodR_take l k) h.pr⟩
theorem OkL.held {l : List Rel} (h : OkL l) : OkL (l.map heldR) := by
  refine ⟨fun r hr => ?_, fun r hr => ?_, by simpa using h.len, Nat.le_trans (prodR_held l) h.pr⟩
  · obtain ⟨x, hx, rfl⟩ := List.mem_map.1 hr
    exact heldR_ok (h.ok x hx)
  · obtain ⟨x, hx, rfl⟩ := List.mem_map.1 hr
    exact Nat.le_trans (held_cols x) (h.nc x hx)
theorem colsL_len {l : List Rel} (h : OkL l) : (colsL l).length ≤ 800 := by
  have h1 := setI_len (l.flatMap Rel.cols)
  have h2 := flat_le (f := Rel.cols) (k := 20) (l := l) h.nc
  have h3 := h.len
  unfold colsL
  omega
theorem OkL.all {l : List Rel} (h : OkL l) : OkR (allJ l) := by
  refine ⟨?_, ?_, fun x hx => ?_⟩
  · have := colsL_len h
    rw [allJ_cols]; omega
  · have := allJ_len l
    have := h.pr
    omega
  · have hlen := colsL_len h
    rw [allJ_rows, List.mem_filterMap] at hx
    obtain ⟨t, ht, hx⟩ := hx
    unfold rowT at hx
    split at hx
    · cases hx
      refine ⟨by rw [List.length_map]; omega, fun v hv => ?_⟩
      obtain ⟨c, _, rfl⟩ := List.mem_map.1 hv
      have key : valT t c = zV4 ∨ ∃ e, e ∈ t ∧ valT t c ∈ e.2 := by
        unfold valT
        cases hf : t.find? (fun e => decide (c ∈ e.1)) with
        | none => exact .inl rfl
        | some e =>
          rcases pickF_mem (r := e.2) (p := idxF e.1 c) with h1 | h1
          · exact .inl h1
          · exact .inr ⟨e, List.mem_of_find?_eq_some hf, h1⟩
      rcases key with e | ⟨e, he, hm⟩
      · rw [e]; simp [zV4]
      · obtain ⟨h1, h2⟩ := tups_mem.1 ht
        obtain ⟨i, hi, rfl⟩ := List.getElem_of_mem he
        have := (h2 i hi (by omega)).2
        exact ((h.ok _ (List.getElem_mem (show i < l.length by omega))).row _ this).2 _ hm
    · cases hx
theorem sharedI_len2 (a b : List Int) : (sharedI a b).length ≤ b.length := by
  refine nodup_le ?_ fun x hx => (sharedI_mem'.1 hx).2
  unfold sharedI
  exact ((setI_rises a).imp (fun h => by omega)).filter _
instance : Sized Rel.av 2 := ⟨fun _ => rfl⟩
abbrev rels' (l : List Rel) : List AV := avs Rel.av l
theorem take_held {l : List Rel} {i : Nat} (h : i < l.length) : (l.take (i + 1)).map heldR = (l.take i).map heldR ++ [heldR l[i]] := by rw [take_next h, List.map_append]; rfl
theorem OkL.step {l : List Rel} (h : OkL l) {i : Nat} (hi : i < l.length) : OkR (allJ ((l.take i).map heldR)) ∧ OkR l[i] ∧ (bothR (heldR (allJ ((l.take i).map heldR))) (heldR l[i])).length ≤ 40 ∧ joinR (heldR (allJ ((l.take i).map heldR))) (heldR l[i]) = allJ ((l.take (i + 1)).map heldR) := by
  have h1 := (h.take i).held.all
  have h2 := h.ok _ (List.getElem_mem hi)
  have h3 := h.nc _ (List.getElem_mem hi)
  refine ⟨h1, h2, ?_, ?_⟩
  · have := sharedI_len2 (heldR (allJ ((l.take i).map heldR))).cols (heldR l[i]).cols
    have := held_cols l[i]
    show (sharedI _ _).length ≤ 40
    omega
  · rw [take_held hi, allJ_snoc, heldR_of (allJ_right _)]
/-- the first ones together -/
def allH (l : List Rel) (i : Nat) : Rel := allJ ((l.take i).map heldR)
theorem allH_all (l : List Rel) : allH l l.length = allJ (l.map heldR) := by unfold allH; rw [List.take_length]
theorem OkL.stepH {l : List Rel} (h : OkL l) {i : Nat} (hi : i < l.length) : OkR (allH l i) ∧ OkR l[i] ∧ (bothR (heldR (allH l i)) (heldR l[i])).length ≤ 40 ∧ joinR (heldR (allH l i)) (heldR l[i]) = allH l (i + 1) := h.step hi
theorem allH_one {l : List Rel} (h : 0 < l.length) : allH l 1 = heldR l[0] := by
  have : allH l (0 + 1) = allJ ((l.take 0).map heldR ++ [heldR l[0]]) := by unfold allH; rw [take_held h]
  rw [this]
  exact allJ_one (heldR_right _)
def SA (l : List Rel) (i : Nat) (H : List HO) : Prop := ∃ c2 z J, c2.length = 2 ∧ H = .box c2 :: .box z :: J ∧ ((i = 0 ∧ z = [.sl .exact [], .sl .exact [.sl .nil []]]) ∨ (0 < i ∧ z = (allH l i).cs))
theorem Frz.oneNil {H : List HO} : Frz H (.agg [.sl .exact [], .sl .exact [.sl .nil []]]) (.agg [.sl .no [], .sl .no [.sl .no []]]) :=
  .agg (.cons (Frz.slN (f := AV.int .i64) (l := [])) (.cons (Frz.slosl (f := Val.av) (l := [(.nil, [])]) rfl) .nil))
theorem T_sall (l : List Rel) (h : OkL l) : T Tryz.prog 21 [.sl .no (rels' l)] (allJ (l.map heldR)).av := by
  have hlen := h.len
  rw [← allH_all]
  refine T.introF (TS.body mix Tryz.func21 (by kernel_rfl) rfl (by kernel_rfl) (by simp) ?_)
  simp
  refine vc_loop (fun i : Nat => l.length - i) (fun i e H => e 2 = .ptr 0 0 ∧ e 3 = .ptr 1 0 ∧ e 8 = .sl .no (rels' l) ∧ e 9 = .int .i64 l.length ∧ e 10 = .int .i64 i ∧ i ≤ l.length ∧ SA l i H) 0 ?_ ?_
  · simp
    exact ⟨_, _, _, rfl, rfl, .inl ⟨rfl, rfl⟩⟩
  rintro i e H ⟨e2, e3, e8, e9, e10, hi, c2, z, J, hc2, rfl, hz⟩
  by_cases hlt : i < l.length
  · have ew := wrap_next hlt (by omega)
    obtain ⟨s1, s2, s3, s4⟩ := h.stepH hlt
    have hok := heldR_ok s2
    have k1 := T_sheld l[i] s2
    have k2 := T_scopied (heldR l[i]).rows hok.nr fun x hx => by have := (hok.row x hx).1; omega
    have k3 := T_sjoin _ _ s1 s2 s3
    rw [s4] at k3
    simp [e2, e3, e8, e9, e10, hlt]
    rcases hz with ⟨h0, rfl⟩ | ⟨h0, rfl⟩
    · subst h0
      have h01 := allH_one hlt
      rw [← h01] at k1 k2
      simp [e2, e3, e8, e9, e10]
      refine TS.callW k1 (Dws.self (by simp)) ?_
      simp [e2, e3, e8, e9, e10]
      refine TS.callW k2 (Dws.self (by simp)) ?_
      simp [e2, e3, e8, e9, e10]
      exact ⟨1, by omega, ew, by omega, _, _, _, hc2, rfl, .inr ⟨by omega, rfl⟩⟩
    · have h0' : ¬ i = 0 := by omega
      simp [e2, e3, e8, e9, e10, h0']
      refine TS.callW k3 (Dws.self (by simp)) ?_
      simp [e2, e3, e8, e9, e10]
      exact ⟨i + 1, by omega, ew, by omega, _, _, _, hc2, rfl, .inr ⟨by omega, rfl⟩⟩
  · have : i = l.length := by omega
    subst this
    match c2, hc2 with
    | [u0, u1], _ =>
    rcases hz with ⟨h0, rfl⟩ | ⟨h0, rfl⟩
    · have e0 : l = [] := List.eq_nil_of_length_eq_zero h0
      subst e0
      simp [e2, e3, e8, e9, e10]
      exact Frz.oneNil
    · simp [e2, e3, e8, e9, e10]
      exact .agg (.cons (Frz.slN (f := AV.int .i64)) (.cons (Frz.slN (f := fun r => AV.sl .no (vals' r))) .nil))
theorem T_rall24 (l : List Rel) (h : OkL l) : T Tryz.prog 22 [.sl .no (rels' l)] (allJ (l.map heldR)).av := by
  have hlen := h.len
  rw [← allH_all]
  by_cases hl : l.length = 0
  · have e0 : l = [] := List.eq_nil_of_length_eq_zero hl
    subst e0
    refine T.introF (TS.body mix Tryz.func22 (by kernel_rfl) rfl (by kernel_rfl) (by simp) ?_)
    simp
    exact .agg (.cons (Frz.slN (f := AV.int .i64) (l := [])) (.cons (Frz.slosl (f := Val.av) (l := [(.exact, [])]) rfl) .nil))
  have h0 : 0 < l.length := by omega
  have hl' : ¬ (l.length : Int) = 0 := by omega
  have hl2 : ¬ l = [] := fun e => hl (by rw [e]; rfl)
  have k1 := T_rheld24 l[0] (h.ok _ (List.getElem_mem h0))
  rw [← allH_one h0] at k1
  refine T.introF (TS.body mix Tryz.func22 (by kernel_rfl) rfl (by kernel_rfl) (by simp) ?_)
  simp [hl, hl', hl2, h0]
  refine TS.callW k1 (Dws.self (by simp)) ?_
  simp
  refine vc_loop (fun i : Nat => l.length - i) (fun i e H => e 0 = .sl .no (rels' l) ∧ e 2 = .ptr 0 0 ∧ e 3 = .ptr 1 0 ∧ e 4 = .int .i64 i ∧ 1 ≤ i ∧ i ≤ l.length ∧ ∃ c2 : List AV, c2.length = 2 ∧ H = [.box c2, .box (allH l i).cs]) 1 ?_ ?_
  · simp
    omega
  rintro i e H ⟨e0, e2, e3, e4, hi1, hi, c2, hc2, rfl⟩
  by_cases hlt : i < l.length
  · have ew := wrap_next hlt (by omega)
    obtain ⟨s1, s2, s3, s4⟩ := h.stepH hlt
    have k3 := T_rjoin24 _ _ s1 s2
    rw [s4] at k3
    simp [e0, e2, e3, e4, hlt]
    refine TDK.callW k3 (Dws.self (by simp)) ?_
    simp [e0, e2, e3, e4]
    exact ⟨i + 1, by omega, ew, by omega, by omega, _, hc2, rfl, rfl, rfl⟩
  · have : i = l.length := by omega
    subst this
    match c2, hc2 with
    | [u0, u1], _ =>
    simp [e0, e2, e3, e4]
    exact .agg (.cons (Frz.slN (f := AV.int .i64)) (.cons (Frz.slN (f := fun r => AV.sl .no (vals' r))) .nil))
end Go.Proofs.YtjplcdeaedflpaaGreatDoor.PL
namespace Go.Proofs.YtjplcdeaedflpaaGreatDoor.PL
open Go.Proofs
set_option linter.unusedVariables false
set_option linter.unusedSimpArgs false
/-- more than is asked of some -/
def wideF : Nat → Nat → List Rel → Bool
  | _, _, [] => false
  | n, i, r :: l => muchR r || (decide (2000 < n * (r.rows.length + 1)) || decide (10 ≤ i)) || wideF (n * (r.rows.length + 1)) (i + 1) l
def wideL (l : List Rel) : Bool := wideF 1 0 l
theorem wideF_no : ∀ {l : List Rel} {n i : Nat}, wideF n i l = false → (∀ r, r ∈ l → muchR r = false) ∧ (l ≠ [] → n * prodR l ≤ 2000 ∧ i + l.length ≤ 10)
  | [], n, i, h => ⟨fun r hr => (List.not_mem_nil hr).elim, fun h => absurd rfl h⟩
  | r :: l, n, i, h => by
    unfold wideF at h
    simp only [Bool.or_eq_false_iff, decide_eq_false_iff_not] at h
    obtain ⟨⟨h1, h2, h3⟩, h4⟩ := h
    obtain ⟨i1, i2⟩ := wideF_no h4
    refine ⟨fun x hx => ?_, fun _ => ?_⟩
    · rcases List.mem_cons.1 hx with rfl | hx
      · exact h1
      · exact i1 x hx
    · by_cases hl : l = []
      · subst hl
        refine ⟨?_, by simp; omega⟩
        show n * ((r.rows.length + 1) * 1) ≤ 2000
        rw [Nat.mul_one]; omega
      · obtain ⟨j1, j2⟩ := i2 hl
        refine ⟨?_, by rw [List.length_cons]; omega⟩
        show n * ((r.rows.length + 1) * prodR l) ≤ 2000
        rw [← Nat.mul_assoc]; exact j1
theorem wideL_no {l : List Rel} (h : wideL l = false) (hi : ∀ r, r ∈ l → RelIn r) : OkL l ∧ prodR l ≤ 2000 ∧ l.length ≤ 10 := by
  obtain ⟨h1, h2⟩ := wideF_no h
  have hk : ∀ r, r ∈ l → OkR r ∧ r.cols.length ≤ 20 ∧ r.rows.length ≤ 30 := fun r hr => muchR_ok (h1 r hr) (hi r hr)
  by_cases hl : l = []
  · subst hl
    exact ⟨⟨fun r hr => (List.not_mem_nil hr).elim, fun r hr => (List.not_mem_nil hr).elim, by simp, by simp [prodR]⟩, by simp [prodR], by simp⟩
  · obtain ⟨h3, h4⟩ := h2 hl
    rw [Nat.one_mul] at h3
    exact ⟨⟨fun r hr => (hk r hr).1, fun r hr => (hk r hr).2.1, by omega, by omega⟩, h3, by omega⟩
theorem wide_next {l : List Rel} {n i : Nat} (h : i < l.length) : wideF n i (l.drop i) = (muchR l[i] || (decide (2000 < n * (l[i].rows.length + 1)) || decide (10 ≤ i)) || wideF (n * (l[i].rows.length + 1)) (i + 1) (l.drop (i + 1))) := by
  rw [List.drop_eq_getElem_cons h]; rfl
theorem T_rwide24 (l : List Rel) (hl : l.length < 4611686018427387904) (hi : ∀ r, r ∈ l → RelIn r) : T Tryz.prog 20 [.sl .no (rels' l)] (.bool (wideL l)) := by
  obtain ⟨W, hW⟩ : ∃ W, W = wideL l := ⟨_, rfl⟩
  rw [← hW]
  refine T.intro (TS.body mix Tryz.func20 (by kernel_rfl) rfl (by kernel_rfl) (by simp) ?_)
  simp
  refine vc_loop (fun i : Nat => l.length - i) (fun i e H => e 0 = .sl .no (rels' l) ∧ e 4 = .int .i64 i ∧ i ≤ l.length ∧ ∃ n : Nat, e 3 = .int .i64 n ∧ n ≤ 2000 ∧ W = wideF n i (l.drop i)) 0 ?_ ?_
  · simp
    exact ⟨1, by simp, by omega, hW⟩
  clear hW
  rintro i e H ⟨e0, e4, hi2, n, e3, hn, hw⟩
  by_cases hlt : i < l.length
  · have ew := wrap_next hlt (by omega)
    have hr := hi _ (List.getElem_mem hlt)
    have k1 := T_rmuch24 l[i] hr.nc hr.nr fun x hx v hv => ((hr.row x hx).2 v hv).2.2
    rw [wide_next hlt] at hw
    simp [e0, e3, e4, hlt]
    refine TS.callW k1 (Dws.self (by simp)) ?_
    cases hm : muchR l[i] with
    | true =>
      rw [hm] at hw
      simp [hw]
    | false =>
      obtain ⟨_, _, h30⟩ := muchR_ok hm hr
      have hp : n * (l[i].rows.length + 1) ≤ 2000 * 31 := Nat.mul_le_mul hn (by omega)
      rw [hm, Bool.false_or] at hw
      obtain ⟨m, hm2⟩ : ∃ m, m = n * (l[i].rows.length + 1) := ⟨_, rfl⟩
      have e2 : IntKind.i64.wrap ((n : Int) * ((l[i].rows.length : Int) + 1)) = (m : Int) := by
        have : (n : Int) * ((l[i].rows.length : Int) + 1) = (m : Int) := by rw [hm2, Int.natCast_mul]; rfl
        rw [this, wrap_i64 (by omega) (by omega)]
      have e1 : IntKind.i64.wrap ((l[i].rows.length : Int) + 1) = (l[i].rows.length : Int) + 1 := wrap_i64 (by omega) (by omega)
      rw [← hm2] at hp hw
      simp [e0, e3, e4, hlt, e1, e2]
      refine condK_of (fun c => ?_) (fun c => ?_)
      · simp at c
        have : W = true := by
          rw [hw, Bool.or_eq_true, Bool.or_eq_true, decide_eq_true_iff, decide_eq_true_iff]
          left; omega
        simp [this]
      · simp at c
        simp [e0, e3, e4, e1, e2]
        refine ⟨i + 1, by omega, ew, by omega, m, rfl, by omega, ?_⟩
        rw [hw, decide_eq_false (by omega), decide_eq_false (by omega)]
        rfl
  · have : i = l.length := by omega
    subst this
    rw [List.drop_of_length_le (Nat.le_refl _)] at hw
    simp [e0, e3, e4, hw, wideF]
theorem Rel_in2 {cs : List AV} (h : Sh Tryz.prog 25 cs) : ∃ r : Rel, cs = r.cs ∧ RelIn r := by
  have hrl := reach_lt
  obtain ⟨hl, hf⟩ := h.struct_of ft_25
  obtain ⟨x, y, rfl⟩ : ∃ x y, cs = [x, y] := by
    match cs, hl with
    | [x, y], _ => exact ⟨x, y, rfl⟩
  obtain ⟨l, h1, hn⟩ := ints_in (hf (22, 0, 1) (by simp))
  obtain ⟨zs, h3, hz, hzl⟩ := (hf (23, 1, 1) (by simp)).sl_of un_23 ag_59
  simp at h1 h3
  subst h1; subst h3
  obtain ⟨rows, er, elr, hrow⟩ := list_in (f := rowA) (g := mkAV false) (Q := fun r => r.length < 4611686018427387904 ∧ ∀ v, v ∈ r → valIn v) (fun z hz' => by
    obtain ⟨l, e, hv, hlen⟩ := vals_in (hz z hz')
    exact ⟨l, by rw [e]; rfl, hlen, hv⟩)
  have b2 : 1 ≤ Tryz.prog.bytesOf 59 := by decide +kernel
  have m2 := Nat.mul_le_mul_left zs.length b2
  exact ⟨⟨l, rows⟩, by rw [er]; rfl, hn.2, by show rows.length < _; omega, hrow⟩
end Go.Proofs.YtjplcdeaedflpaaGreatDoor.PL
namespace Go.Proofs.YtjplcdeaedflpaaGreatDoor.PL
open Go.Proofs
set_option linter.unusedVariables false
set_option linter.unusedSimpArgs false
theorem rels_in {cs : List AV} (h : Sh Tryz.prog 31 cs) : ∃ l : List Rel, cs = [.sl .no (rels' l)] ∧ (∀ r, r ∈ l → RelIn r) ∧ l.length < 4611686018427387904 := by
  obtain ⟨ys, rfl, hy, b⟩ := h.sl_of un_31 ag_25
  obtain ⟨l, e, el, hl⟩ := list_in (f := Rel.av) (g := mkAV true) (Q := RelIn) (fun y hy' => by
    obtain ⟨r, e, hr⟩ := Rel_in2 (hy y hy')
    exact ⟨r, by rw [e]; rfl, hr⟩)
  have hb : 1 ≤ Tryz.prog.bytesOf 25 := by decide +kernel
  have hr := reach_lt
  have := Nat.mul_le_mul_left ys.length hb
  exact ⟨l, by rw [e]; rfl, hl, by omega⟩
end Go.Proofs.YtjplcdeaedflpaaGreatDoor.PL
