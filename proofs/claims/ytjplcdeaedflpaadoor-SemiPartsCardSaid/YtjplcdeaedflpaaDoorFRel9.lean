/- Relations: both together. -/
import Derived.Test.YtjplcdeaedflpaaDoorFRel6
import Derived.Test.YtjplcdeaedflpaaDoorFCat
namespace Go.Proofs.YtjplcdeaedflpaaDoor.PL
open Go.Proofs
set_option linter.unusedVariables false
set_option linter.unusedSimpArgs false
def colsJ (a b : Rel) : List Int := setI (a.cols ++ b.cols)
def cellJ (a b : Rel) (x y : List Val) (c : Int) : Val := if c ∈ a.cols then pickF x (idxF a.cols c) else pickF y (idxF b.cols c)
def rowJ (a b : Rel) (x y : List Val) : List Val := (colsJ a b).map (cellJ a b x y)
def rowsJ (a b : Rel) (x : List Val) : List (List Val) := (b.rows.filter fun y => meetB a b x y).map (rowJ a b x)
def joinR (a b : Rel) : Rel := ⟨colsJ a b, a.rows.flatMap (rowsJ a b)⟩
theorem colsJ_len (a b : Rel) : (colsJ a b).length ≤ a.cols.length + b.cols.length := by
  have := setI_len (a.cols ++ b.cols)
  rw [List.length_append] at this
  exact this
theorem rowsJ_len (a b : Rel) (x : List Val) : (rowsJ a b x).length ≤ b.rows.length := by
  unfold rowsJ
  rw [List.length_map]
  exact List.length_filter_le ..
theorem flat_len {a b : Rel} (hb : b.rows.length ≤ 100000) : ∀ l : List (List Val), (l.flatMap (rowsJ a b)).length ≤ l.length * 100000
  | [] => by simp
  | x :: l => by
    have h1 := flat_len (a := a) hb l
    have h2 := rowsJ_len a b x
    rw [List.flatMap_cons, List.length_append, List.length_cons, Nat.add_mul]
    omega
theorem rows_range (r : Rel) : r.rows = (List.range r.rows.length).map fun j => r.rows.getD j [] := by
  apply List.ext_getElem
  · simp
  · intro i h1 h2
    simp
    rw [List.getElem?_eq_getElem h1]
    rfl
theorem rowsJ_hits (a b : Rel) (x : List Val) : rowsJ a b x = (hitsN b (bothR a b) (valsF a.cols x (bothR a b))).map fun j => rowJ a b x (b.rows.getD j []) := by
  unfold rowsJ hitsN
  conv => lhs; rw [rows_range b]
  rw [List.filter_map, List.map_map]
  rfl
theorem flat_next {a b : Rel} {l : List (List Val)} {i : Nat} (h : i < l.length) : (l.take (i + 1)).flatMap (rowsJ a b) = (l.take i).flatMap (rowsJ a b) ++ rowsJ a b l[i] := by
  rw [take_next h, List.flatMap_append]
  simp
theorem hitsN_in {r : Rel} {cs : List Int} {key : List Val} {k : Nat} (h : k < (hitsN r cs key).length) : (hitsN r cs key)[k] < r.rows.length := by
  have := List.getElem_mem h
  unfold hitsN at this
  have := (List.mem_filter.1 this).1
  exact List.mem_range.1 this
abbrev orows (R : List (Own × List Val)) : List AV := avs (oslA Val.av) R
/-- the memory while rows are put together -/
structure JM (a b : Rel) (cs U : List Int) (p6 p7 : Nat) (L : PlL) (R : List (Own × List Val)) (M : List HO) : Prop where
  hp : 6 ≤ p6 ∧ p7 = p6 + 1
  g0 : M[0]? = some (.box a.cs)
  g1 : M[1]? = some (.box b.cs)
  g2 : ∃ c2 : List AV, c2.length = 2 ∧ M[2]? = some (.box c2)
  gm : M[5]? = some (.mp (plA L) (some 0))
  g6 : M[p6]? = some (.box (idxA b cs 5))
  g7 : ∃ x, M[p7]? = some (.box [.sl .no (ints' U), x]) ∧ ((R = [] ∧ (x = .sl .nil [] ∨ x = .sl .exact [])) ∨ ∃ t, x = .sl (.tok t) (orows R) ∧ M[t]? = some (.spare R.length 1))
namespace JM
variable {a b : Rel} {cs U : List Int} {p6 p7 : Nat} {L : PlL} {R : List (Own × List Val)} {M : List HO}
theorem app (h : JM a b cs U p6 p7 L R M) (J : List HO) : JM a b cs U p6 p7 L R (M ++ J) := by
  have e : ∀ {i : Nat} {o : HO}, M[i]? = some o → (M ++ J)[i]? = some o := fun {i o} hi => by rw [List.getElem?_append_left (List.getElem?_eq_some_iff.1 hi).1]; exact hi
  obtain ⟨c2, h2, g2⟩ := h.g2
  obtain ⟨x, g7, hx⟩ := h.g7
  refine ⟨h.hp, e h.g0, e h.g1, ⟨c2, h2, e g2⟩, e h.gm, e h.g6, x, e g7, ?_⟩
  rcases hx with hx | ⟨t, hx, ht⟩
  · exact .inl hx
  · exact .inr ⟨t, hx, e ht⟩
theorem first (h : JM a b cs U p6 p7 L [] M) {r : List Val} {own : Own} {k : Nat} (hk : k = M.length) : JM a b cs U p6 p7 L [(own, r)] ((M ++ [HO.spare 1 1]).set p7 (.box [.sl .no (ints' U), .sl (.tok k) [.sl own (vals' r)]])) := by
  subst hk
  have h1 := h.app [HO.spare 1 1]
  obtain ⟨hp1, hp2⟩ := h.hp
  have hl : p7 < M.length := by obtain ⟨x, g7, _⟩ := h.g7; exact (List.getElem?_eq_some_iff.1 g7).1
  have e : ∀ {i : Nat} (z : HO), i ≠ p7 → ((M ++ [HO.spare 1 1]).set p7 z)[i]? = (M ++ [HO.spare 1 1])[i]? := fun {i} z hi => List.getElem?_set_ne (Ne.symm hi)
  refine ⟨h.hp, ?_, ?_, ?_, ?_, ?_, _, List.getElem?_set_self (by simp; omega), .inr ⟨M.length, by simp [avs], ?_⟩⟩
  · rw [e _ (by omega)]; exact h1.g0
  · rw [e _ (by omega)]; exact h1.g1
  · rw [e _ (by omega)]; exact h1.g2
  · rw [e _ (by omega)]; exact h1.gm
  · rw [e _ (by omega)]; exact h1.g6
  · rw [e _ (by omega)]; simp
theorem more (h : JM a b cs U p6 p7 L R M) {x : AV} {t n : Nat} (g7 : M[p7]? = some (.box [.sl .no (ints' U), x])) (ht : M[t]? = some (.spare R.length 1)) {r : List Val} {own : Own} (hn : n = R.length + 1) : JM a b cs U p6 p7 L (R ++ [(own, r)]) ((M.set t (.spare n 1)).set p7 (.box [.sl .no (ints' U), .sl (.tok t) (orows R ++ [.sl own (vals' r)])])) := by
  subst hn
  obtain ⟨hp1, hp2⟩ := h.hp
  have hl := (List.getElem?_eq_some_iff.1 g7).1
  have htl := (List.getElem?_eq_some_iff.1 ht).1
  have ht7 : p7 ≠ t := by rintro rfl; rw [g7] at ht; cases ht
  have e : ∀ {i : Nat} {o : HO} (z : HO), M[i]? = some o → i ≠ p7 → (∀ n, o ≠ .spare n 1) → ((M.set t (.spare (R.length + 1) 1)).set p7 z)[i]? = some o := fun {i o} z hi h7 ho => by
    have : i ≠ t := by rintro rfl; rw [ht] at hi; exact ho _ (Option.some.inj hi).symm
    rw [List.getElem?_set_ne (Ne.symm h7), List.getElem?_set_ne (Ne.symm this)]
    exact hi
  obtain ⟨c2, h2, g2⟩ := h.g2
  refine ⟨h.hp, e _ h.g0 (by omega) (by simp), e _ h.g1 (by omega) (by simp), ⟨c2, h2, e _ g2 (by omega) (by simp)⟩, e _ h.gm (by omega) (by simp), e _ h.g6 (by omega) (by simp), _, List.getElem?_set_self (by simp; omega), .inr ⟨t, by simp [avs, oslA], ?_⟩⟩
  rw [List.getElem?_set_ne ht7, List.getElem?_set_self htl]
  simp
end JM
set_option maxRecDepth 6000 in
theorem T_sjoin (p q : Rel) (hp : OkR p) (hq : OkR q) (hpc : (bothR (heldR p) (heldR q)).length ≤ 40) : T Tryd.prog 8 [p.av, q.av] (joinR (heldR p) (heldR q)).av := by
  have k1 := T_sheld p hp
  have k2 := T_sheld q hq
  have ha := heldR_ok hp
  have hb := heldR_ok hq
  have har := heldR_right p
  obtain ⟨a, haa⟩ : ∃ a, a = heldR p := ⟨_, rfl⟩
  obtain ⟨b, hbb⟩ : ∃ b, b = heldR q := ⟨_, rfl⟩
  rw [← haa] at k1 ha hpc har ⊢
  rw [← hbb] at k2 hb hpc ⊢
  have hnc := ha.nc
  have hnb := hb.nc
  have hnr := ha.nr
  have hnbr := hb.nr
  have hbl := bothR_len a b
  obtain ⟨cs, hcs⟩ : ∃ cs, cs = bothR a b := ⟨_, rfl⟩
  obtain ⟨U, hU⟩ : ∃ U, U = colsJ a b := ⟨_, rfl⟩
  have hUl : U.length ≤ a.cols.length + b.cols.length := by rw [hU]; exact colsJ_len a b
  have k3 := T_shared a.cols b.cols (by omega) (by omega)
  have k3' : T Tryd.prog 17 [.sl .no (ints' a.cols), .sl .no (ints' b.cols)] (.sl .no (ints' cs)) := by rw [hcs]; exact k3
  have hcl : cs.length ≤ 40 := by rw [hcs]; exact hpc
  have kb := S_build [.box a.cs, .box b.cs, .box [.sl .exact [], .sl .exact []]] b cs hb hcl
  have k4 := T_verticesC [a.cols, b.cols] (by simp) (fun l hl => by simp at hl; rcases hl with rfl | rfl <;> omega)
  have hcat : setI (catI [a.cols, b.cols]) = U := by rw [hU]; simp [catI, colsJ]
  rw [hcat] at k4
  refine T.introF (TS.bodyM [100008, 2000805, 1080500, 1080501] mix Tryd.func8 (by kernel_rfl) rfl (by kernel_rfl) (by simp) ?_)
  simp
  refine TDK.callW k1 (Dws.self (by simp)) ?_
  simp
  refine TDK.callW k2 (Dws.self (by simp)) ?_
  simp
  refine TS.callW k3' (Dws.self (by simp)) ?_
  simp
  refine kb.mono ?_
  rintro x H' ⟨L, rfl, ⟨M, hM, c4, hH⟩, hL⟩
  have hml := hM.len
  obtain ⟨J0, rfl, hm⟩ := hM.out hH
  have hJl : 4 ≤ J0.length := by
    have := congrArg List.length hH
    rw [List.length_set, List.length_append] at this
    simp at this hml
    omega
  clear hM hH hml
  simp at hm
  simp
  refine TS.callW k4 (.cons (.sl (Dws.self (by simp))) .nil) ?_
  simp
  have hJM : JM a b cs U (J0.length + 1 + 1 + 1) (J0.length + 1 + 1 + 1 + 1) L [] (.box a.cs :: .box b.cs :: .box [.sl .exact [], .sl .exact []] :: (J0 ++ [.box (idxA b cs 5), .box [.sl .no (ints' U), .sl .exact []]])) := by
    refine ⟨⟨by omega, rfl⟩, rfl, rfl, ⟨_, rfl, rfl⟩, ?_, ?_, _, ?_, .inl ⟨rfl, .inr rfl⟩⟩
    · simp
      rw [List.getElem?_append_left (List.getElem?_eq_some_iff.1 hm).1]
      exact hm
    · simp
    · simp
  obtain ⟨p6, hp6⟩ : ∃ p6, p6 = J0.length + 1 + 1 + 1 := ⟨_, rfl⟩
  obtain ⟨p7, hp7⟩ : ∃ p7, p7 = J0.length + 1 + 1 + 1 + 1 := ⟨_, rfl⟩
  rw [← hp7, ← hp6] at hJM ⊢
  refine vc_loop (fun i : Nat => a.rows.length - i) (fun i e M => e 2 = .ptr 0 0 ∧ e 3 = .ptr 1 0 ∧ e 4 = .ptr 2 0 ∧ e 5 = .sl .no (ints' cs) ∧ e 6 = .ptr p6 0 ∧ e 7 = .ptr p7 0 ∧ e 36 = .sl .no (rows' a.rows) ∧ e 37 = .int .i64 a.rows.length ∧ e 38 = .int .i64 i ∧ i ≤ a.rows.length ∧ ∃ RL, RL.map Prod.snd = (a.rows.take i).flatMap (rowsJ a b) ∧ JM a b cs U p6 p7 L RL M) 0 ?_ ?_
  · simp
    exact hJM
  clear hJM hm hJl hp6 hp7 J0 c4 kb
  rintro i e M ⟨e2, e3, e4, e5, e6, e7, e36, e37, e38, hi, RL, hRL, hj⟩
  by_cases hlt : i < a.rows.length
  · have ew := wrap_next hlt (by omega)
    have hxm := List.getElem_mem hlt
    have hnx := flat_next (a := a) (b := b) hlt
    have hfl := flat_len (a := a) hnbr (a.rows.take i)
    have hil : (a.rows.take i).length ≤ 100000 := by simp; omega
    have hxr := ha.row _ hxm
    have hxl := rightR_row har hxm
    have hrh := rowsJ_hits a b a.rows[i]
    have hrl := rowsJ_len a b a.rows[i]
    obtain ⟨x, hx⟩ : ∃ x, x = a.rows[i] := ⟨_, rfl⟩
    rw [← hx] at hxm hnx hxr hxl hrh hrl
    have hv := valsF_ok ha hxm cs
    have k5 := T_svalues a x cs hnc hxr.1 (by omega)
    have k6 := S_matches M b cs (valsF a.cols x cs) 5 L hb hcl (by simp [valsF]; omega) hv.1 hv.2 hj.gm hL
    obtain ⟨hs, hhs⟩ : ∃ hs, hs = hitsN b cs (valsF a.cols x cs) := ⟨_, rfl⟩
    have hhl : hs.length ≤ b.rows.length := by rw [hhs]; unfold hitsN; exact Nat.le_trans (List.length_filter_le ..) (by simp)
    have hin : ∀ k (h : k < hs.length), hs[k] < b.rows.length := fun k h => by subst hhs; exact hitsN_in h
    have hhi : hits b cs (valsF a.cols x cs) = hs.map fun j : Nat => (j : Int) := by rw [hhs]; rfl
    rw [← hcs, ← hhs] at hrh
    rw [hhi] at k6
    obtain ⟨rs, hrs⟩ : ∃ rs, rs = hs.map fun j => rowJ a b x (b.rows.getD j []) := ⟨_, rfl⟩
    rw [← hrs] at hrh
    have hrsl : rs.length = hs.length := by rw [hrs, List.length_map]
    have hrsk : ∀ k (h : k < hs.length), rs[k]'(by omega) = rowJ a b x (b.rows[hs[k]]'(hin k h)) := fun k h => by
      subst hrs
      rw [List.getElem_map, List.getD_eq_getElem?_getD, List.getElem?_eq_getElem (hin k h)]
      rfl
    clear hrs
    obtain ⟨R0, hR0⟩ : ∃ R0, R0 = (a.rows.take i).flatMap (rowsJ a b) := ⟨_, rfl⟩
    rw [← hR0] at hRL hnx hfl
    have g0 := hj.g0
    have g1 := hj.g1
    have g6 := hj.g6
    simp [e2, e3, e4, e5, e6, e7, e36, e37, e38, hlt, g0, g6, ← hx]
    refine TDK.callW k5 (Dws.self (by simp)) ?_
    simp [e2, e3, e4, e5, e6, e7, e36, e37, e38, hlt, g0, g6, ← hx]
    refine TWK.call k6 ?_
    simp [e2, e3, e4, e5, e6, e7, e36, e37, e38, hlt, g0, g6, ← hx]
    refine vc_loop (fun k : Nat => hs.length - k) (fun k e M => e 2 = .ptr 0 0 ∧ e 3 = .ptr 1 0 ∧ e 4 = .ptr 2 0 ∧ e 5 = .sl .no (ints' cs) ∧ e 6 = .ptr p6 0 ∧ e 7 = .ptr p7 0 ∧ e 9 = rowA x ∧ e 36 = .sl .no (rows' a.rows) ∧ e 37 = .int .i64 a.rows.length ∧ e 38 = .int .i64 i ∧ e 47 = .sl .no (ints' (hs.map fun j : Nat => (j : Int))) ∧ e 48 = .int .i64 hs.length ∧ e 49 = .int .i64 k ∧ k ≤ hs.length ∧ ∃ RL, RL.map Prod.snd = R0 ++ rs.take k ∧ JM a b cs U p6 p7 L RL M) 0 ?_ ?_
    · simp [e2, e3, e4, e5, e6, e7, e36, e37, e38]
      exact ⟨RL, hRL, hj⟩
    clear g0 g1 g6 k6 hj hRL RL e2 e3 e4 e5 e6 e7 e36 e37 e38 e M
    rintro k e M ⟨e2, e3, e4, e5, e6, e7, e9, e36, e37, e38, e47, e48, e49, hk, RL, hRL, hj⟩
    by_cases hkl : k < hs.length
    · have ewk := wrap_next hkl (by omega)
      have hy := hin k hkl
      have hym := List.getElem_mem hy
      have hyr := hb.row _ hym
      have hnk : rs.take (k + 1) = rs.take k ++ [rowJ a b x b.rows[hs[k]]] := by rw [take_next (by omega), hrsk k hkl]
      obtain ⟨y, hyy⟩ : ∃ y, y = b.rows[hs[k]] := ⟨_, rfl⟩
      rw [← hyy] at hyr hnk hym
      obtain ⟨R, hR⟩ : ∃ R, R = R0 ++ rs.take k := ⟨_, rfl⟩
      have hRn : R0 ++ rs.take (k + 1) = R ++ [rowJ a b x y] := by rw [hnk, hR, List.append_assoc]
      have hRl : R.length ≤ 100000 * 100000 + 100000 := by
        rw [hR, List.length_append, List.length_take]
        omega
      rw [← hR] at hRL
      have hRLl : RL.length = R.length := by rw [← hRL, List.length_map]
      have g0 := hj.g0
      have g1 := hj.g1
      obtain ⟨xx, g7, hxx⟩ := hj.g7
      have hMl := (List.getElem?_eq_some_iff.1 g7).1
      have g0' : ∀ Y : List HO, (M ++ Y)[0]? = some (.box a.cs) := fun Y => (hj.app Y).g0
      have g1' : ∀ Y : List HO, (M ++ Y)[1]? = some (.box b.cs) := fun Y => (hj.app Y).g1
      have g7' : ∀ Y : List HO, (M ++ Y)[p7]? = some (.box [.sl .no (ints' U), xx]) := fun Y => by rw [List.getElem?_append_left hMl]; exact g7
      obtain ⟨cl, hcl2⟩ : ∃ cl, cl = U.map (cellJ a b x y) := ⟨_, rfl⟩
      have hclr : rowJ a b x y = cl := by rw [hcl2, hU]; rfl
      have hcll : cl.length = U.length := by rw [hcl2, List.length_map]
      have hclm : ∀ m (h : m < U.length), cl[m]'(by omega) = cellJ a b x y U[m] := fun m h => by subst hcl2; simp
      clear hcl2
      rw [hclr] at hRn
      obtain ⟨j, hjj⟩ : ∃ j, j = hs[k] := ⟨_, rfl⟩
      have hjb : j < b.rows.length := by omega
      have hyj : b.rows[j] = y := by subst hjj; exact hyy.symm
      simp [e2, e3, e4, e5, e6, e7, e9, e36, e37, e38, e47, e48, e49, hkl, g7, ← hjj]
      refine vc_loop (fun m : Nat => U.length - m) (fun m e H => e 2 = .ptr 0 0 ∧ e 3 = .ptr 1 0 ∧ e 4 = .ptr 2 0 ∧ e 5 = .sl .no (ints' cs) ∧ e 6 = .ptr p6 0 ∧ e 7 = .ptr p7 0 ∧ e 9 = rowA x ∧ e 11 = .int .i64 j ∧ e 36 = .sl .no (rows' a.rows) ∧ e 37 = .int .i64 a.rows.length ∧ e 38 = .int .i64 i ∧ e 47 = .sl .no (ints' (hs.map fun j : Nat => (j : Int))) ∧ e 48 = .int .i64 hs.length ∧ e 49 = .int .i64 k ∧ e 54 = .sl .no (ints' U) ∧ e 55 = .int .i64 U.length ∧ e 56 = .int .i64 m ∧ m ≤ U.length ∧ ∃ J, H = M ++ J ∧ GrowB 3 M J (e 12) (vals' (cl.take m))) 0 ?_ ?_
      · simp [e2, e3, e4, e5, e6, e7, e9, e36, e37, e38, e47, e48, e49]
        exact .nil
      clear e2 e3 e4 e5 e6 e7 e9 e36 e37 e38 e47 e48 e49 e
      rintro m e H ⟨e2, e3, e4, e5, e6, e7, e9, e11, e36, e37, e38, e47, e48, e49, e54, e55, e56, hm, J, rfl, hg⟩
      by_cases hml : m < U.length
      · have ewm := wrap_next hml (by omega)
        have hnm : cl.take (m + 1) = cl.take m ++ [cellJ a b x y U[m]] := by rw [take_next (by omega), hclm m hml]
        have hmt : (cl.take m).length = m := by simp; omega
        have k8 := T_idxF a.cols U[m] (by omega)
        have k9 := T_svalues b y [U[m]] hnb hyr.1 (by simp)
        by_cases hin2 : U[m] ∈ a.cols
        · obtain ⟨ix, hix, _, hie⟩ := idxF_at hin2
          have hixx : ix < x.length := by omega
          have hc : cellJ a b x y U[m] = x[ix] := by unfold cellJ; rw [if_pos hin2, hie, pickF_in hixx]
          rw [hie] at k8
          rw [hc] at hnm
          have h0i : (0 : Int) ≤ ix := by omega
          simp [e2, e3, e4, e5, e6, e7, e9, e11, e36, e37, e38, e47, e48, e49, e54, e55, e56, hml, g0']
          refine TS.callW k8 (Dws.self (by simp)) ?_
          rcases hg with ⟨ge, gx⟩ | ⟨t, gx, ht⟩
          · rw [avs_eq_nil] at ge
            simp [e2, e3, e4, e5, e6, e7, e9, e11, e36, e37, e38, e47, e48, e49, e54, e55, e56, hml, g0', gx, h0i, hixx]
            refine ⟨m + 1, by omega, ewm, by omega, ?_⟩
            rw [hnm]
            exact GrowB.first (f := Val.av) ge rfl
          · have hw := ht
            simp only [avs_length] at hw
            have hw' : (M ++ J)[M.length + t]? = some (.spare (cl.take m).length 3) := by rw [app_atn]; exact hw
            simp [e2, e3, e4, e5, e6, e7, e9, e11, e36, e37, e38, e47, e48, e49, e54, e55, e56, hml, g0', gx, h0i, hixx, hw', app_setn]
            refine ⟨by omega, m + 1, by omega, ewm, by omega, ?_⟩
            rw [hnm]
            exact GrowB.more (f := Val.av) ht (by omega)
        · have hie := idxF_none hin2
          have hc : cellJ a b x y U[m] = pickF y (idxF b.cols U[m]) := by unfold cellJ; rw [if_neg hin2]
          rw [hie] at k8
          have hvs : valsF b.cols y [U[m]] = [cellJ a b x y U[m]] := by rw [hc]; rfl
          rw [hvs] at k9
          simp [e2, e3, e4, e5, e6, e7, e9, e11, e36, e37, e38, e47, e48, e49, e54, e55, e56, hml, g0']
          refine TS.callW k8 (Dws.self (by simp)) ?_
          simp [e2, e3, e4, e5, e6, e7, e9, e11, e36, e37, e38, e47, e48, e49, e54, e55, e56, hml, g0', g1', hjb, hyj]
          refine TDK.callW k9 (.cons (.self (by simp)) (.cons (.self (by simp)) (.cons (.sl (Dws.self (by simp))) .nil))) ?_
          rcases hg with ⟨ge, gx⟩ | ⟨t, gx, ht⟩
          · rw [avs_eq_nil] at ge
            simp [e2, e3, e4, e5, e6, e7, e9, e11, e36, e37, e38, e47, e48, e49, e54, e55, e56, hml, g0', gx]
            refine ⟨m + 1, by omega, ewm, by omega, ?_⟩
            rw [hnm]
            exact GrowB.first (f := Val.av) ge rfl
          · have hw := ht
            simp only [avs_length] at hw
            have hw' : (M ++ J)[M.length + t]? = some (.spare (cl.take m).length 3) := by rw [app_atn]; exact hw
            simp [e2, e3, e4, e5, e6, e7, e9, e11, e36, e37, e38, e47, e48, e49, e54, e55, e56, hml, g0', gx, hw', app_setn]
            refine ⟨by omega, m + 1, by omega, ewm, by omega, ?_⟩
            rw [hnm]
            exact GrowB.more (f := Val.av) ht (by omega)
      · have : m = U.length := by omega
        subst this
        rw [← hcll, List.take_length] at hg
        obtain ⟨own, gx⟩ := hg.own
        have hjj2 := hj.app J
        obtain ⟨Q, hQ⟩ : ∃ Q, Q = M ++ J := ⟨_, rfl⟩
        have gq7 : Q[p7]? = some (.box [.sl .no (ints' U), xx]) := by rw [hQ]; exact g7' J
        have gq7' : ∀ Y : List HO, (Q ++ Y)[p7]? = some (.box [.sl .no (ints' U), xx]) := fun Y => by rw [hQ, List.append_assoc]; exact g7' _
        rw [← hQ] at hjj2 ⊢
        rcases hxx with ⟨h0, hxx⟩ | ⟨t, rfl, ht⟩
        · have ex := GrowX.ex0 hxx
          subst h0
          have hR2 : R = [] := hRL.symm
          rw [hR2] at hRn
          simp [e2, e3, e4, e5, e6, e7, e9, e11, e36, e37, e38, e47, e48, e49, e54, e55, e56, gx, gq7, gq7', ex]
          refine ⟨k + 1, by omega, ewk, by omega, [(own, cl)], ?_, ?_⟩
          · rw [hRn]; rfl
          · exact hjj2.first rfl
        · have hqt : Q[t]? = some (.spare RL.length 1) := by rw [hQ, List.getElem?_append_left (List.getElem?_eq_some_iff.1 ht).1]; exact ht
          have ht7 : t ≠ p7 := by rintro rfl; rw [gq7] at hqt; cases hqt
          have gqs : ∀ z : HO, (Q.set t z)[p7]? = some (.box [.sl .no (ints' U), .sl (.tok t) (orows RL)]) := fun z => by rw [List.getElem?_set_ne ht7]; exact gq7
          simp [e2, e3, e4, e5, e6, e7, e9, e11, e36, e37, e38, e47, e48, e49, e54, e55, e56, gx, gq7, gqs, hqt]
          refine ⟨⟨by omega, by omega⟩, k + 1, by omega, ewk, by omega, RL ++ [(own, cl)], ?_, ?_⟩
          · rw [hRn, List.map_append, hRL]; rfl
          · exact hjj2.more gq7 hqt rfl
    · have : k = hs.length := by omega
      subst this
      rw [← hrsl, List.take_length, ← hrh, ← hnx] at hRL
      simp [e2, e3, e4, e5, e6, e7, e9, e36, e37, e38, e47, e48, e49]
      exact ⟨i + 1, by omega, ew, by omega, RL, hRL, hj⟩
  · have : i = a.rows.length := by omega
    subst this
    rw [List.take_length] at hRL
    obtain ⟨c2, h2, g2⟩ := hj.g2
    obtain ⟨xx, g7, hxx⟩ := hj.g7
    have hxo : ∃ own, xx = .sl own (orows RL) := by
      rcases hxx with ⟨h0, h | h⟩ | ⟨t, h, _⟩
      · rw [h0]; exact ⟨_, h⟩
      · rw [h0]; exact ⟨_, h⟩
      · exact ⟨_, h⟩
    obtain ⟨own, rfl⟩ := hxo
    match c2, h2 with
    | [u0, u1], _ =>
    have gz : ∀ z : HO, (M.set 2 z)[2]? = some z := fun z => List.getElem?_set_self (List.getElem?_eq_some_iff.1 g2).1
    simp [e2, e3, e4, e5, e6, e7, e36, e37, e38, g7, g2, gz]
    rw [hU]
    exact .agg (.cons (Frz.slN (f := AV.int .i64)) (.cons (Frz.slosl hRL) .nil))
end Go.Proofs.YtjplcdeaedflpaaDoor.PL
