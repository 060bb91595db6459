/- Relations: both together, by the reference. -/
import Derived.Test.YtjplcdeaedflpaaGreatDoorFRel9
namespace Go.Proofs.YtjplcdeaedflpaaGreatDoor.PL
open Go.Proofs
set_option linter.unusedVariables false
set_option linter.unusedSimpArgs false
/-- the memory while rows are put together -/
structure JR (a b : Rel) (U : List Int) (R : List (Own × List Val)) (M : List HO) : Prop where
  g0 : M[3]? = some (.box a.cs)
  g1 : M[4]? = some (.box b.cs)
  g2 : ∃ c2 : List AV, c2.length = 2 ∧ M[2]? = some (.box c2)
  g7 : ∃ x, M[7]? = some (.box [.sl .no (ints' U), x]) ∧ ((R = [] ∧ (x = .sl .nil [] ∨ x = .sl .exact [])) ∨ ∃ t, x = .sl (.tok t) (orows R) ∧ M[t]? = some (.spare R.length 1))
namespace JR
variable {a b : Rel} {U : List Int} {R : List (Own × List Val)} {M : List HO}
theorem app (h : JR a b U R M) (J : List HO) : JR a b U R (M ++ J) := by
  have e : ∀ {i : Nat} {o : HO}, M[i]? = some o → (M ++ J)[i]? = some o := fun {i o} hi => by rw [List.getElem?_append_left (List.getElem?_eq_some_iff.1 hi).1]; exact hi
  obtain ⟨c2, h2, g2⟩ := h.g2
  obtain ⟨x, g7, hx⟩ := h.g7
  refine ⟨e h.g0, e h.g1, ⟨c2, h2, e g2⟩, x, e g7, ?_⟩
  rcases hx with hx | ⟨t, hx, ht⟩
  · exact .inl hx
  · exact .inr ⟨t, hx, e ht⟩
theorem first (h : JR a b U [] M) {r : List Val} {own : Own} {k : Nat} (hk : k = M.length) : JR a b U [(own, r)] ((M ++ [HO.spare 1 1]).set 7 (.box [.sl .no (ints' U), .sl (.tok k) [.sl own (vals' r)]])) := by
  subst hk
  have h1 := h.app [HO.spare 1 1]
  have hl : 7 < M.length := by obtain ⟨x, g7, _⟩ := h.g7; exact (List.getElem?_eq_some_iff.1 g7).1
  have e : ∀ {i : Nat} (z : HO), i ≠ 7 → ((M ++ [HO.spare 1 1]).set 7 z)[i]? = (M ++ [HO.spare 1 1])[i]? := fun {i} z hi => List.getElem?_set_ne (Ne.symm hi)
  refine ⟨?_, ?_, ?_, _, List.getElem?_set_self (by simp; omega), .inr ⟨M.length, by simp [avs], ?_⟩⟩
  · rw [e _ (by omega)]; exact h1.g0
  · rw [e _ (by omega)]; exact h1.g1
  · rw [e _ (by omega)]; exact h1.g2
  · rw [e _ (by omega)]; simp
theorem more (h : JR a b U R M) {x : AV} {t n : Nat} (g7 : M[7]? = some (.box [.sl .no (ints' U), x])) (ht : M[t]? = some (.spare R.length 1)) {r : List Val} {own : Own} (hn : n = R.length + 1) : JR a b U (R ++ [(own, r)]) ((M.set t (.spare n 1)).set 7 (.box [.sl .no (ints' U), .sl (.tok t) (orows R ++ [.sl own (vals' r)])])) := by
  subst hn
  have hl := (List.getElem?_eq_some_iff.1 g7).1
  have htl := (List.getElem?_eq_some_iff.1 ht).1
  have ht7 : 7 ≠ t := by rintro rfl; rw [g7] at ht; cases ht
  have e : ∀ {i : Nat} {o : HO} (z : HO), M[i]? = some o → i ≠ 7 → (∀ n, o ≠ .spare n 1) → ((M.set t (.spare (R.length + 1) 1)).set 7 z)[i]? = some o := fun {i o} z hi h7 ho => by
    have : i ≠ t := by rintro rfl; rw [ht] at hi; exact ho _ (Option.some.inj hi).symm
    rw [List.getElem?_set_ne (Ne.symm h7), List.getElem?_set_ne (Ne.symm this)]
    exact hi
  obtain ⟨c2, h2, g2⟩ := h.g2
  refine ⟨e _ h.g0 (by omega) (by simp), e _ h.g1 (by omega) (by simp), ⟨c2, h2, e _ g2 (by omega) (by simp)⟩, _, List.getElem?_set_self (by simp; omega), .inr ⟨t, by simp [avs, oslA], ?_⟩⟩
  rw [List.getElem?_set_ne ht7, List.getElem?_set_self htl]
  simp
end JR
theorem share {G X : Prop} (x : X) (f : X → G) : G := f x
theorem lts_ints (l : List Int) (k : Nat) : AV.lts k (avs (AV.int .i64) l) = true := by
  induction l with
  | nil => rfl
  | cons a l ih => simp [avs, AV.lts, AV.lt]; simpa [avs] using ih
theorem filter_row {a b : Rel} {x : List Val} {k : Nat} (h : k < b.rows.length) : ((b.rows.take (k + 1)).filter fun y => meetB a b x y).map (rowJ a b x) = ((b.rows.take k).filter fun y => meetB a b x y).map (rowJ a b x) ++ if meetB a b x b.rows[k] = true then [rowJ a b x b.rows[k]] else [] := by
  rw [filter_nextR h, List.map_append]
  by_cases hm : meetB a b x b.rows[k] = true
  · rw [if_pos hm, if_pos hm]; rfl
  · rw [if_neg hm, if_neg hm]; rfl
set_option maxRecDepth 6000 in
theorem T_rjoin24 (p q : Rel) (hp : OkR p) (hq : OkR q) : T Tryz.prog 19 [p.av, q.av] (joinR (heldR p) (heldR q)).av := by
  have k1 := T_rheld24 p hp
  have k2 := T_rheld24 q hq
  have ha := heldR_ok hp
  have hb := heldR_ok hq
  have har := heldR_right p
  obtain ⟨a, haa⟩ : ∃ a, a = heldR p := ⟨_, rfl⟩
  obtain ⟨b, hbb⟩ : ∃ b, b = heldR q := ⟨_, rfl⟩
  rw [← haa] at k1 ha har ⊢
  rw [← hbb] at k2 hb ⊢
  have hnc := ha.nc
  have hnb := hb.nc
  have hnr := ha.nr
  have hnbr := hb.nr
  obtain ⟨U, hU⟩ : ∃ U, U = colsJ a b := ⟨_, rfl⟩
  have hUl : U.length ≤ a.cols.length + b.cols.length := by rw [hU]; exact colsJ_len a b
  have k4 := T_rset21 (a.cols ++ b.cols) (by simp; omega)
  have hcat : setI (a.cols ++ b.cols) = U := by rw [hU]; rfl
  rw [hcat] at k4
  refine T.introF (TS.bodyM [300001, 1010600, 1010601, 1010602, 1010603, 1010604, 1010605, 1010700, 1010701, 1010702, 1010703, 1010704, 1010705, 1010706, 300002, 1020300, 1020301, 1020302, 1020600, 1020601, 1020602, 1020603, 1020604, 1020605, 1020703, 1020706, 1020803, 1020806, 1021000, 1021001, 1021002, 1021003, 1021004, 1021005, 1021006, 1021007, 1021008, 1021009, 6000203, 6000206] mix Tryz.func19 (by kernel_rfl) rfl (by kernel_rfl) (by simp) ?_)
  simp
  refine TDK.callW k1 (Dws.self (by simp)) ?_
  simp
  refine TDK.callW k2 (Dws.self (by simp)) ?_
  simp
  have o1 : b.cols.length * 8 ≤ 140737488355328 ∧ b.cols.length ≤ 9223372036854775807 := ⟨by omega, by omega⟩
  have o2 : (a.cols.length + b.cols.length) * 8 ≤ 140737488355328 ∧ a.cols.length + b.cols.length ≤ 9223372036854775807 := ⟨by omega, by omega⟩
  refine ⟨⟨by omega, by omega⟩, ?_⟩
  apply share
  case f =>
    intro body
    refine ⟨fun h1 => ⟨o1, fun h2 => ?_, fun h2 => ⟨fun k => lts_ints _ k, ?_⟩⟩, fun h1 => ⟨fun k => lts_ints _ k, ⟨o2, ?_⟩⟩⟩
    · rw [h1, h2] at k4
      refine TDK.callW k4 (.cons (.sl (Dws.self (by simp))) .nil) ?_
      simp
      refine vc_loop (fun i : Nat => a.rows.length - i) (fun i e M => e 4 = .ptr 2 0 ∧ e 5 = .ptr 3 0 ∧ e 6 = .ptr 4 0 ∧ e 7 = .ptr 7 0 ∧ e 8 = .int .i64 i ∧ i ≤ a.rows.length ∧ ∃ RL : List (Own × List Val), RL.map Prod.snd = (a.rows.take i).flatMap (rowsJ a b) ∧ JR a b U RL M) 0 ?_ body
      simp
      exact ⟨rfl, rfl, ⟨_, rfl, rfl⟩, _, rfl, .inl ⟨rfl, .inr rfl⟩⟩
    · rw [h1] at k4
      refine TDK.callW k4 (.cons (.sl (Dws.self (by simp))) .nil) ?_
      simp
      refine vc_loop (fun i : Nat => a.rows.length - i) (fun i e M => e 4 = .ptr 2 0 ∧ e 5 = .ptr 3 0 ∧ e 6 = .ptr 4 0 ∧ e 7 = .ptr 7 0 ∧ e 8 = .int .i64 i ∧ i ≤ a.rows.length ∧ ∃ RL : List (Own × List Val), RL.map Prod.snd = (a.rows.take i).flatMap (rowsJ a b) ∧ JR a b U RL M) 0 ?_ body
      simp
      exact ⟨rfl, rfl, ⟨_, rfl, rfl⟩, _, rfl, .inl ⟨rfl, .inr rfl⟩⟩
    · refine TDK.callW k4 (.cons (.sl (Dws.self (by simp))) .nil) ?_
      simp
      refine vc_loop (fun i : Nat => a.rows.length - i) (fun i e M => e 4 = .ptr 2 0 ∧ e 5 = .ptr 3 0 ∧ e 6 = .ptr 4 0 ∧ e 7 = .ptr 7 0 ∧ e 8 = .int .i64 i ∧ i ≤ a.rows.length ∧ ∃ RL : List (Own × List Val), RL.map Prod.snd = (a.rows.take i).flatMap (rowsJ a b) ∧ JR a b U RL M) 0 ?_ body
      simp
      exact ⟨rfl, rfl, ⟨_, rfl, rfl⟩, _, rfl, .inl ⟨rfl, .inr rfl⟩⟩
  clear k4 o1 o2 k1 k2 hcat
  rintro i e M ⟨e4, e5, e6, e7, e8, hi, RL, hRL, hj⟩
  by_cases hlt : i < a.rows.length
  · have ew := wrap_next hlt (by omega)
    have hxm := List.getElem_mem hlt
    have hnx := flat_next (a := a) (b := b) hlt
    have hfl := flat_len (a := a) hnbr (a.rows.take i)
    have hil : (a.rows.take i).length ≤ 100000 := by simp; omega
    have hxr := ha.row _ hxm
    have hxl := rightR_row har hxm
    obtain ⟨x, hx⟩ : ∃ x, x = a.rows[i] := ⟨_, rfl⟩
    rw [← hx] at hxm hnx hxr hxl
    obtain ⟨R0, hR0⟩ : ∃ R0, R0 = (a.rows.take i).flatMap (rowsJ a b) := ⟨_, rfl⟩
    rw [← hR0] at hRL hnx hfl
    have g0 := hj.g0
    simp [e4, e5, e6, e7, e8, hlt, g0]
    refine vc_loop (fun k : Nat => b.rows.length - k) (fun k e M => e 4 = .ptr 2 0 ∧ e 5 = .ptr 3 0 ∧ e 6 = .ptr 4 0 ∧ e 7 = .ptr 7 0 ∧ e 8 = .int .i64 i ∧ e 9 = .int .i64 k ∧ k ≤ b.rows.length ∧ ∃ RL : List (Own × List Val), RL.map Prod.snd = R0 ++ ((b.rows.take k).filter fun y => meetB a b x y).map (rowJ a b x) ∧ JR a b U RL M) 0 ?_ ?_
    · simp [e4, e5, e6, e7, e8]
      exact ⟨RL, hRL, hj⟩
    clear g0 hj hRL RL e4 e5 e6 e7 e8 e M
    rintro k e M ⟨e4, e5, e6, e7, e8, e9, hk, RL, hRL, hj⟩
    by_cases hkl : k < b.rows.length
    · have ewk := wrap_next hkl (by omega)
      have hym := List.getElem_mem hkl
      have hyr := hb.row _ hym
      have hnk := filter_row (a := a) (x := x) hkl
      have hpl : (((b.rows.take k).filter fun y => meetB a b x y).map (rowJ a b x)).length ≤ k := by rw [List.length_map]; exact Nat.le_trans (List.length_filter_le ..) (by simp; omega)
      obtain ⟨y, hyy⟩ : ∃ y, y = b.rows[k] := ⟨_, rfl⟩
      have km := T_rmeet a b x y ha hb hxm (by rw [hyy]; exact hym)
      rw [← hyy] at hyr hnk hym
      obtain ⟨R, hR⟩ : ∃ R, R = R0 ++ ((b.rows.take k).filter fun y => meetB a b x y).map (rowJ a b x) := ⟨_, rfl⟩
      have hRl : R.length ≤ 100000 * 100000 + 100000 := by rw [hR, List.length_append]; omega
      rw [← hR] at hRL
      have hRLl : RL.length = R.length := by rw [← hRL, List.length_map]
      have g0 := hj.g0
      have g1 := hj.g1
      obtain ⟨xx, g7, hxx⟩ := hj.g7
      have hMl := (List.getElem?_eq_some_iff.1 g7).1
      simp [e4, e5, e6, e7, e8, e9, hlt, hkl, g0, g1, ← hx, ← hyy]
      refine TDK.callW km (Dws.self (by simp)) ?_
      cases hm : meetB a b x y with
      | false =>
        rw [hm, if_neg (by simp), List.append_nil] at hnk
        simp [e4, e5, e6, e7, e8, e9, hlt, hkl]
        exact ⟨k + 1, by omega, ewk, by omega, RL, by rw [hnk, ← hR]; exact hRL, hj⟩
      | true =>
        rw [hm, if_pos rfl] at hnk
        have hRn : R0 ++ ((b.rows.take (k + 1)).filter fun y => meetB a b x y).map (rowJ a b x) = R ++ [rowJ a b x y] := by rw [hnk, hR, List.append_assoc]
        have g0' : ∀ Y : List HO, (M ++ Y)[3]? = some (.box a.cs) := fun Y => (hj.app Y).g0
        have g1' : ∀ Y : List HO, (M ++ Y)[4]? = some (.box b.cs) := fun Y => (hj.app Y).g1
        have g7' : ∀ Y : List HO, (M ++ Y)[7]? = some (.box [.sl .no (ints' U), xx]) := fun Y => by rw [List.getElem?_append_left hMl]; exact g7
        obtain ⟨cl, hcl2⟩ : ∃ cl, cl = U.map (cellJ a b x y) := ⟨_, rfl⟩
        have hclr : rowJ a b x y = cl := by rw [hcl2, hU]; rfl
        have hcll : cl.length = U.length := by rw [hcl2, List.length_map]
        have hclm : ∀ m (h : m < U.length), cl[m]'(by omega) = cellJ a b x y U[m] := fun m h => by subst hcl2; simp
        clear hcl2
        rw [hclr] at hRn
        simp [e4, e5, e6, e7, e8, e9, hlt, hkl]
        refine vc_loop (fun m : Nat => U.length - m) (fun m e H => e 4 = .ptr 2 0 ∧ e 5 = .ptr 3 0 ∧ e 6 = .ptr 4 0 ∧ e 7 = .ptr 7 0 ∧ e 8 = .int .i64 i ∧ e 9 = .int .i64 k ∧ e 11 = .int .i64 m ∧ m ≤ U.length ∧ ∃ J, H = M ++ J ∧ GrowB 3 M J (e 10) (vals' (cl.take m))) 0 ?_ ?_
        · simp [e4, e5, e6, e7, e8, e9]
          exact .nil
        clear e4 e5 e6 e7 e8 e9 e
        rintro m e H ⟨e4, e5, e6, e7, e8, e9, e11, hm2, J, rfl, hg⟩
        by_cases hml : m < U.length
        · have ewm := wrap_next hml (by omega)
          have hnm : cl.take (m + 1) = cl.take m ++ [cellJ a b x y U[m]] := by rw [take_next (by omega), hclm m hml]
          have hmt : (cl.take m).length = m := by simp; omega
          have k8 := T_has21 a.cols U[m] (by omega)
          simp [e4, e5, e6, e7, e8, e9, e11, hml, g0', g7']
          refine TDK.callW k8 (Dws.self (by simp)) ?_
          by_cases hin2 : U[m] ∈ a.cols
          · have k9 := T_rvalue24 a x U[m] hnc hxr.1
            have hc : cellJ a b x y U[m] = pickF x (idxF a.cols U[m]) := by unfold cellJ; rw [if_pos hin2]
            rw [← hc] at k9
            simp [e4, e5, e6, e7, e8, e9, e11, hml, hin2, g0', g7', hlt, ← hx]
            refine TDK.callW k9 (Dws.self (by simp)) ?_
            rcases hg with ⟨ge, gx⟩ | ⟨t, gx, ht⟩
            · rw [avs_eq_nil] at ge
              simp [e4, e5, e6, e7, e8, e9, e11, hml, gx]
              refine ⟨m + 1, by omega, ewm, by omega, ?_⟩
              rw [hnm]
              exact GrowB.first (f := Val.av) ge rfl
            · have hw := ht
              simp only [avs_length] at hw
              have hw' : (M ++ J)[M.length + t]? = some (.spare (cl.take m).length 3) := by rw [app_atn]; exact hw
              simp [e4, e5, e6, e7, e8, e9, e11, hml, gx, hw', app_setn]
              refine ⟨by omega, m + 1, by omega, ewm, by omega, ?_⟩
              rw [hnm]
              exact GrowB.more (f := Val.av) ht (by omega)
          · have k9 := T_rvalue24 b y U[m] hnb hyr.1
            have hc : cellJ a b x y U[m] = pickF y (idxF b.cols U[m]) := by unfold cellJ; rw [if_neg hin2]
            rw [← hc] at k9
            simp [e4, e5, e6, e7, e8, e9, e11, hml, hin2, g1', g7', hkl, ← hyy]
            refine TDK.callW k9 (Dws.self (by simp)) ?_
            rcases hg with ⟨ge, gx⟩ | ⟨t, gx, ht⟩
            · rw [avs_eq_nil] at ge
              simp [e4, e5, e6, e7, e8, e9, e11, hml, gx]
              refine ⟨m + 1, by omega, ewm, by omega, ?_⟩
              rw [hnm]
              exact GrowB.first (f := Val.av) ge rfl
            · have hw := ht
              simp only [avs_length] at hw
              have hw' : (M ++ J)[M.length + t]? = some (.spare (cl.take m).length 3) := by rw [app_atn]; exact hw
              simp [e4, e5, e6, e7, e8, e9, e11, hml, gx, hw', app_setn]
              refine ⟨by omega, m + 1, by omega, ewm, by omega, ?_⟩
              rw [hnm]
              exact GrowB.more (f := Val.av) ht (by omega)
        · have : m = U.length := by omega
          subst this
          rw [← hcll, List.take_length] at hg
          obtain ⟨own, gx⟩ := hg.own
          have hjj2 := hj.app J
          obtain ⟨Q, hQ⟩ : ∃ Q, Q = M ++ J := ⟨_, rfl⟩
          have gq7 : Q[7]? = some (.box [.sl .no (ints' U), xx]) := by rw [hQ]; exact g7' J
          have gq7' : ∀ Y : List HO, (Q ++ Y)[7]? = some (.box [.sl .no (ints' U), xx]) := fun Y => by rw [hQ, List.append_assoc]; exact g7' _
          rw [← hQ] at hjj2 ⊢
          rcases hxx with ⟨h0, hxx⟩ | ⟨t, rfl, ht⟩
          · have ex := GrowX.ex0 hxx
            subst h0
            have hR2 : R = [] := hRL.symm
            rw [hR2] at hRn
            simp [e4, e5, e6, e7, e8, e9, e11, gx, gq7, gq7', ex]
            refine ⟨k + 1, by omega, ewk, by omega, [(own, cl)], ?_, ?_⟩
            · rw [hRn]; rfl
            · exact hjj2.first rfl
          · have hqt : Q[t]? = some (.spare RL.length 1) := by rw [hQ, List.getElem?_append_left (List.getElem?_eq_some_iff.1 ht).1]; exact ht
            have ht7 : t ≠ 7 := by rintro rfl; rw [gq7] at hqt; cases hqt
            have gqs : ∀ z : HO, (Q.set t z)[7]? = some (.box [.sl .no (ints' U), .sl (.tok t) (orows RL)]) := fun z => by rw [List.getElem?_set_ne ht7]; exact gq7
            simp [e4, e5, e6, e7, e8, e9, e11, gx, gq7, gqs, hqt]
            refine ⟨⟨by omega, by omega⟩, k + 1, by omega, ewk, by omega, RL ++ [(own, cl)], ?_, ?_⟩
            · rw [hRn, List.map_append, hRL]; rfl
            · exact hjj2.more gq7 hqt rfl
    · have : k = b.rows.length := by omega
      subst this
      rw [List.take_length] at hRL
      have hnx2 : R0 ++ (b.rows.filter fun y => meetB a b x y).map (rowJ a b x) = (a.rows.take (i + 1)).flatMap (rowsJ a b) := hnx.symm
      rw [hnx2] at hRL
      have g1 := hj.g1
      simp [e4, e5, e6, e7, e8, e9, g1]
      exact ⟨i + 1, by omega, ew, by omega, RL, hRL, hj⟩
  · have : i = a.rows.length := by omega
    subst this
    rw [List.take_length] at hRL
    obtain ⟨c2, h2, g2⟩ := hj.g2
    obtain ⟨xx, g7, hxx⟩ := hj.g7
    have g0 := hj.g0
    have hxo : ∃ own, xx = .sl own (orows RL) := by
      rcases hxx with ⟨h0, h | h⟩ | ⟨t, h, _⟩
      · rw [h0]; exact ⟨_, h⟩
      · rw [h0]; exact ⟨_, h⟩
      · exact ⟨_, h⟩
    obtain ⟨own, rfl⟩ := hxo
    match c2, h2 with
    | [u0, u1], _ =>
    have gz : ∀ z : HO, (M.set 2 z)[2]? = some z := fun z => List.getElem?_set_self (List.getElem?_eq_some_iff.1 g2).1
    simp [e4, e5, e6, e7, e8, g0, g7, g2, gz]
    rw [hU]
    exact .agg (.cons (Frz.slN (f := AV.int .i64)) (.cons (Frz.slosl hRL) .nil))
end Go.Proofs.YtjplcdeaedflpaaGreatDoor.PL
