/- NameExprs. -/
import Derived.Test.YtaahlhhpmooliaaFNam7
import Derived.Test.YtaahlhhpmooliaaFLib
namespace Go.Proofs.Ytaahlhhpmooliaa.PL
open Go.Proofs
set_option linter.unusedVariables false
set_option linter.unusedSimpArgs false
variable {ts : List Tab} {fs : List Frm}
/-- are the first n right -/
def rightsF (ts : List Tab) (fs : List Frm) (n : Nat) : Bool := (List.range n).all fun i => rightF ts fs i
theorem rightsF_next (n : Nat) : rightsF ts fs (n + 1) = (rightsF ts fs n && rightF ts fs n) := by
  unfold rightsF
  rw [List.range_succ, List.all_append]
  simp
theorem rightsF_no {i n : Nat} (h : i < n) (hr : rightF ts fs i = false) : rightsF ts fs n = false := by
  unfold rightsF
  rw [List.all_eq_false]
  exact ⟨i, List.mem_range.2 h, by simp [hr]⟩
theorem findT_name : ∀ {ts : List Tab} {n : ByteArray} {t : Tab}, findT ts n = some t → t.name = n
  | u :: ts, n, t, h => by
    unfold findT at h
    split at h
    · rename_i hn; simp at h; rw [← h]; exact hn
    · exact findT_name h
theorem rights_name {n i : Nat} (hr : rightsF ts fs n = true) (hn : n = fs.length := by rfl) (h : i < fs.length) : (foundT ts (fs[i]).tab).name = (fs[i]).tab := by
  unfold rightsF at hr
  rw [List.all_eq_true] at hr
  have := hr i (List.mem_range.2 (by omega))
  unfold rightF at this
  rw [List.getD_eq_getElem?_getD, List.getElem?_eq_getElem h] at this
  simp only [Option.getD_some, Bool.and_eq_true] at this
  unfold foundT
  cases hf : findT ts (fs[i]).tab with
  | none => rw [hf] at this; cases this.1
  | some t => exact findT_name hf
def tabsF (ts : List Tab) (fs : List Frm) : List Tab := fs.map fun f => foundT ts f.tab
theorem T_tables (hts : TsOk ts) (hl : fs.length ≤ 100000) : T Try.prog 25 [.sl .no (avs Tab.av ts), .sl .no (frms fs)] (.tup [.sl .no (avs Tab.av (if rightsF ts fs fs.length = true then tabsF ts fs else [])), .int .i64 (if rightsF ts fs fs.length = true then 0 else 2)]) := by
  refine T.introF (TS.body mix Try.func25 (by kernel_rfl) rfl (by kernel_rfl) (by simp) ?_)
  simp
  refine vc_loop (fun i : Nat => fs.length - i) (fun i en H => ∃ (x : AV), en 0 = .sl .no (avs Tab.av ts) ∧ en 1 = .sl .no (frms fs) ∧ en 6 = x ∧ en 11 = .int .i64 fs.length ∧ en 12 = .int .i64 i ∧ i ≤ fs.length ∧ rightsF ts fs i = true ∧ Grow1 3 H x (avs Tab.av (tabsF ts (fs.take i)))) 0 ?_ ?_
  · refine ⟨.sl .nil [], ?_⟩
    simp [rightsF, tabsF, Grow1]
  rintro i en H ⟨x, h0, h1, h6, h11, h12, hi, hr, hg⟩
  by_cases hlt : i < fs.length
  · have kt := T_table hts i hlt (by omega)
    have ew := wrap_next hlt (by omega)
    have en1 : tabsF ts (fs.take (i + 1)) = tabsF ts (fs.take i) ++ [foundT ts fs[i].tab] := by unfold tabsF; rw [take_next hlt, List.map_append]; rfl
    have hln : (tabsF ts (fs.take i)).length = i := by simp [tabsF]; omega
    simp [h0, h1, h6, h11, h12, hlt]
    refine TS.callW kt (Dws.self (by simp)) ?_
    cases hri : rightF ts fs i with
    | false =>
      rw [rightsF_no hlt hri]
      simp [h0, h1, h6, h11, h12, hlt]
      exact .tup (.cons (Frz.slN (f := Tab.av) (l := [])) (.cons (.cl (by simp)) .nil))
    | true =>
      have hr2 : rightsF ts fs (i + 1) = true := by rw [rightsF_next, hr, hri]; rfl
      rcases hg with ⟨ge, rfl⟩ | ⟨t, rfl, ht⟩
      · rw [avs_eq_nil] at ge
        rw [ge] at en1
        simp [h0, h1, h6, h11, h12, hlt]
        refine ⟨i + 1, by omega, ew, by omega, hr2, .inr ⟨H.length + 1, by rw [en1]; rfl, by rw [en1]; simp⟩⟩
      · have htl := (List.getElem?_eq_some_iff.1 ht).1
        have ht' : ∀ Y : List HO, (H ++ Y)[t]? = some (.spare i 3) := fun Y => by rw [List.getElem?_append_left htl]; simpa [hln] using ht
        simp [h0, h1, h6, h11, h12, hlt, ht', hln]
        refine ⟨⟨by omega, by omega⟩, i + 1, by omega, ew, by omega, hr2, .inr ⟨t, by rw [en1, ← avs_append]; try rfl, ?_⟩⟩
        rw [List.getElem?_set_self (by simp; omega), en1]
        simp [hln]
  · have hil : i = fs.length := by omega
    subst hil
    rw [List.take_length] at hg
    rw [hr]
    obtain ⟨own, rfl⟩ := hg.own
    simp [h0, h1, h6, h11, h12]
    exact .tup (.cons Frz.slN (.cons (.cl (by simp)) .nil))
theorem exprF_ok' {seen : List Int} (hf : ∀ f, f ∈ fs → OkF f) {e : Ex'} (he : OkE e) : OkE ((exprF ts fs seen e).getD zE) := by
  cases h : exprF ts fs seen e with
  | none => exact okQ_z.whr
  | some y => exact exprF_ok (fun f h => ⟨(hf f h).tab, (hf f h).al⟩) _ _ h he
set_option maxRecDepth 100000 in
theorem T_NameExprs (ts : List Tab) (fs : List Frm) (n : Int) (e : Ex') (seen : List Int) (hl : ts.length < 4611686018427387904) (ok : ∀ t, t ∈ ts → TabIn t) (hfl : fs.length < 4611686018427387904) (hf : ∀ f, f ∈ fs → OkF f) (he : OkE e) : T Try.prog 5 [.sl .no (avs Tab.av ts), .sl .no (frms fs), .int .i64 n, e.av, .sl .no (ints' seen)] (.bool true) := by
  have m1 := T_muchT ts hl ok
  have oq : OkQ ⟨[], fs, e, []⟩ := ⟨⟨by simp, by simp⟩, hf, hfl, he, ⟨by simp, by simp⟩⟩
  have m2 := T_muchQ ⟨[], fs, e, []⟩ oq
  refine T.intro (TS.body mix Try.func5 (by kernel_rfl) rfl (by kernel_rfl) (by simp) ?_)
  simp only [Ex'.av_eq, Ex'.cs]
  simp
  refine TS.callW m1 (Dws.self (by simp)) ?_
  cases e1 : muchT ts with
  | true =>
    simp
    refine GTK.callW (fun h => nomatch h) (ys := []) (r := .bool true) ?_
    simp
    refine TS.callW T_live11 .nil ?_
    simp
  | false =>
    simp
    refine GTK.callW (fun _ => ⟨m2, by repeat (first | exact .self (by simp [AV.pl, AV.pls]) | exact .nil | constructor)⟩) ?_
    cases e2 : muchQ ⟨[], fs, e, []⟩ with
    | true =>
      simp
      refine TS.callW T_live11 .nil ?_
      simp
    | false =>
      have hts := TsOk.of e1
      obtain ⟨hr, hb1, _⟩ := OkR.of oq e2
      by_cases h50 : (50 : Int) < seen.length
      · simp [h50]
        refine TS.callW T_live11 .nil ?_
        simp
      have s1 := T_seen fs n (by simp at hb1; omega)
      have s2 := T_rseen fs n (by simp at hb1; omega)
      have x1 := T_nexpr (fs := fs) hts (seen := seen) (by omega) e he hr.whr.2
      have x2 := T_rexpr (fs := fs) hts (seen := seen) (by omega) e he hr.whr.2
      have kt := T_tables (fs := fs) hts (by simp at hb1; omega)
      have k11 := T_code11 2
      have k10 := T_code11 0
      simp [h50]
      refine TS.callW s1 (Dws.self (by simp)) ?_
      simp
      refine TS.callW s2 (Dws.self (by simp)) ?_
      simp
      refine vc_loop (fun i : Nat => (seenF fs n).length - i) (fun i en H => en 0 = .sl .no (avs Tab.av ts) ∧ en 1 = .sl .no (frms fs) ∧ en 4 = .sl .no (ints' seen) ∧ en 8 = .ptr 0 0 ∧ en 11 = .sl .no (ints' (seenF fs n)) ∧ en 12 = .sl .no (ints' (seenF fs n)) ∧ en 13 = .int .i64 i ∧ i ≤ (seenF fs n).length ∧ H = [.box e.cs]) 0 ?_ ?_
      · simp
      rintro i en H ⟨h0, h1, h4, h8, h11, h12, h13, hi, rfl⟩
      by_cases hlt : i < (seenF fs n).length
      · have hsl := seenF_len fs n
        have ew := wrap_next hlt (by simp at hb1; omega)
        simp [h0, h1, h4, h8, h11, h12, h13, hlt]
        exact ⟨i + 1, by omega, ew, by omega⟩
      have k3 := T_rsame08 _ (exprF_ok' (ts := ts) (seen := seen) hf he) ((exprF ts fs seen e).getD zE)
      rw [sameE_iff.2 rfl] at k3
      have kc := T_code11 (if (exprF ts fs seen e).isSome = true then 0 else 2)
      have kb : decide ((if (exprF ts fs seen e).isSome = true then (0 : Int) else 2) = 0) = (exprF ts fs seen e).isSome := by cases exprF ts fs seen e <;> simp
      have kd : (!(exprF ts fs seen e).isSome && !decide ((if (exprF ts fs seen e).isSome = true then (0 : Int) else 2) = 2)) = false := by cases exprF ts fs seen e <;> simp
      simp only [Ex'.av_eq] at x1 x2 k3
      generalize (if (exprF ts fs seen e).isSome = true then (0 : Int) else 2) = c at *
      generalize (exprF ts fs seen e).isSome = b at *
      generalize (exprF ts fs seen e).getD zE = y at *
      simp [h0, h1, h4, h8, h11, h12, h13, hlt]
      refine TS.callW x1 (Dws.self (by simp)) ?_
      simp [h0, h1, h4, h8, h11, h12, h13, hlt]
      refine TS.callW x2 (Dws.self (by simp)) ?_
      simp [h0, h1, h4, h8, h11, h12, h13, hlt]
      refine TS.callW k3 (Dws.self (by simp)) ?_
      simp [h0, h1, h4, h8, h11, h12, h13, hlt]
      refine GTK.callW (fun _ => ⟨kc, Dws.self (by simp)⟩) ?_
      simp [h0, h1, h4, h8, h11, h12, h13, hlt, kb]
      have rpick : ∀ i, (rightsF ts fs i && rightF ts fs i) = rightsF ts fs (i + 1) := fun i => (rightsF_next i).symm
      have hb12 : fs.length ≤ 12 := by simpa using hb1
      cases b
      · obtain rfl : c = 2 := by simpa using kd
        simp [h0, h1, h4, h8, h11, h12, h13, hlt]
        refine GTK.callW (fun _ => ⟨k11, Dws.self (by simp)⟩) ?_
        simp [h0, h1, h4, h8, h11, h12, h13, hlt]
        refine TS.callW kt (Dws.self (by simp)) ?_
        simp [h0, h1, h4, h8, h11, h12, h13, hlt]
        refine vc_loop (fun i : Nat => fs.length - i) (fun i en H => en 0 = .sl .no (avs Tab.av ts) ∧ en 1 = .sl .no (frms fs) ∧ en 18 = .sl .no (avs Tab.av (if rightsF ts fs fs.length = true then tabsF ts fs else [])) ∧ en 19 = .int .i64 (if rightsF ts fs fs.length = true then 0 else 2) ∧ en 20 = .bool (rightsF ts fs i) ∧ en 21 = .int .i64 i ∧ i ≤ fs.length) 0 ?_ ?_
        · simp [h0, h1, rightsF]
        clear h0 h1 h4 h8 h11 h12 h13
        rintro i en H ⟨h0, h1, h18, h19, h20, h21, hi⟩
        by_cases hlt : i < fs.length
        · have ew := wrap_next hlt (by omega)
          have kr := T_rright11 hts i hlt (by omega)
          have ka := T_alias fs[i]
          have kb := T_ralias fs[i]
          simp [h0, h1, h18, h19, h20, h21, hlt]
          refine GTK.callW (fun _ => ⟨kr, Dws.self (by simp)⟩) ?_
          simp [h0, h1, h18, h19, h20, h21, hlt, rpick]
          refine TDK.callW ka (Dws.self (by simp)) ?_
          simp [h0, h1, h18, h19, h20, h21, hlt, rpick]
          refine TDK.callW kb (Dws.self (by simp)) ?_
          simp [h0, h1, h18, h19, h20, h21, hlt, rpick]
          exact ⟨i + 1, by omega, rfl, ew, by omega⟩
        have hil : i = fs.length := by omega
        subst hil
        cases hr : rightsF ts fs fs.length with
        | false =>
          rw [hr] at h18 h19
          simp at h18 h19
          simp [h0, h1, h18, h19, h20, h21, hr]
          refine TS.callW k11 (Dws.self (by simp)) ?_
          simp [h0, h1, h18, h19, h20, h21, hr]
          refine GTK.callW (fun _ => ⟨T_live11, .nil⟩) ?_
          simp [h0, h1, h18, h19, h20, h21, hr]
        | true =>
          rw [hr] at h18 h19
          simp at h18 h19
          have htl : (tabsF ts fs).length = fs.length := by simp [tabsF]
          simp [h0, h1, h18, h19, h20, h21, hr]
          refine vc_loop (fun i : Nat => fs.length - i) (fun i en H => en 1 = .sl .no (frms fs) ∧ en 18 = .sl .no (avs Tab.av (tabsF ts fs)) ∧ en 19 = .int .i64 0 ∧ en 22 = .int .i64 i ∧ i ≤ fs.length) 0 ?_ ?_
          · simp [h0, h1, h18, h19]
          clear h0 h1 h18 h19 h20 h21 hi hlt
          rintro i en H ⟨h1, h18, h19, h22, hi⟩
          by_cases hlt : i < fs.length
          · have ew := wrap_next hlt (by omega)
            have hn : ((tabsF ts fs)[i]'(by omega)).name = (fs[i]).tab := by simp only [tabsF, List.getElem_map]; exact rights_name hr rfl hlt
            have hn2 : ¬ fs.length ≤ i := by omega
            simp [h1, h18, h19, h22, hlt, htl, hn, hn2]
            exact ⟨i + 1, by omega, ew, by omega⟩
          · simp [h1, h18, h19, h22, hlt, htl]
            refine TS.callW k10 (Dws.self (by simp)) ?_
            simp [h1, h18, h19, h22, hlt, htl]
            refine GTK.callW (fun _ => ⟨T_live11, .nil⟩) ?_
            simp [h1, h18, h19, h22, hlt, htl]
      · refine GTK.callW (fun h => nomatch h) (ys := []) (r := .bool true) ?_
        simp [h0, h1, h4, h8, h11, h12, h13, hlt]
        refine TS.callW kt (Dws.self (by simp)) ?_
        simp [h0, h1, h4, h8, h11, h12, h13, hlt]
        refine vc_loop (fun i : Nat => fs.length - i) (fun i en H => en 0 = .sl .no (avs Tab.av ts) ∧ en 1 = .sl .no (frms fs) ∧ en 18 = .sl .no (avs Tab.av (if rightsF ts fs fs.length = true then tabsF ts fs else [])) ∧ en 19 = .int .i64 (if rightsF ts fs fs.length = true then 0 else 2) ∧ en 20 = .bool (rightsF ts fs i) ∧ en 21 = .int .i64 i ∧ i ≤ fs.length) 0 ?_ ?_
        · simp [h0, h1, rightsF]
        clear h0 h1 h4 h8 h11 h12 h13
        rintro i en H ⟨h0, h1, h18, h19, h20, h21, hi⟩
        by_cases hlt : i < fs.length
        · have ew := wrap_next hlt (by omega)
          have kr := T_rright11 hts i hlt (by omega)
          have ka := T_alias fs[i]
          have kb := T_ralias fs[i]
          simp [h0, h1, h18, h19, h20, h21, hlt]
          refine GTK.callW (fun _ => ⟨kr, Dws.self (by simp)⟩) ?_
          simp [h0, h1, h18, h19, h20, h21, hlt, rpick]
          refine TDK.callW ka (Dws.self (by simp)) ?_
          simp [h0, h1, h18, h19, h20, h21, hlt, rpick]
          refine TDK.callW kb (Dws.self (by simp)) ?_
          simp [h0, h1, h18, h19, h20, h21, hlt, rpick]
          exact ⟨i + 1, by omega, rfl, ew, by omega⟩
        have hil : i = fs.length := by omega
        subst hil
        cases hr : rightsF ts fs fs.length with
        | false =>
          rw [hr] at h18 h19
          simp at h18 h19
          simp [h0, h1, h18, h19, h20, h21, hr]
          refine TS.callW k11 (Dws.self (by simp)) ?_
          simp [h0, h1, h18, h19, h20, h21, hr]
          refine GTK.callW (fun _ => ⟨T_live11, .nil⟩) ?_
          simp [h0, h1, h18, h19, h20, h21, hr]
        | true =>
          rw [hr] at h18 h19
          simp at h18 h19
          have htl : (tabsF ts fs).length = fs.length := by simp [tabsF]
          simp [h0, h1, h18, h19, h20, h21, hr]
          refine vc_loop (fun i : Nat => fs.length - i) (fun i en H => en 1 = .sl .no (frms fs) ∧ en 18 = .sl .no (avs Tab.av (tabsF ts fs)) ∧ en 19 = .int .i64 0 ∧ en 22 = .int .i64 i ∧ i ≤ fs.length) 0 ?_ ?_
          · simp [h0, h1, h18, h19]
          clear h0 h1 h18 h19 h20 h21 hi hlt
          rintro i en H ⟨h1, h18, h19, h22, hi⟩
          by_cases hlt : i < fs.length
          · have ew := wrap_next hlt (by omega)
            have hn : ((tabsF ts fs)[i]'(by omega)).name = (fs[i]).tab := by simp only [tabsF, List.getElem_map]; exact rights_name hr rfl hlt
            have hn2 : ¬ fs.length ≤ i := by omega
            simp [h1, h18, h19, h22, hlt, htl, hn, hn2]
            exact ⟨i + 1, by omega, ew, by omega⟩
          · simp [h1, h18, h19, h22, hlt, htl]
            refine TS.callW k10 (Dws.self (by simp)) ?_
            simp [h1, h18, h19, h22, hlt, htl]
            refine GTK.callW (fun _ => ⟨T_live11, .nil⟩) ?_
            simp [h1, h18, h19, h22, hlt, htl]
theorem frms_in {cs : List AV} (h : Sh Try.prog 24 cs) : ∃ l : List Frm, cs = [.sl .no (frms l)] ∧ l.length < 4611686018427387904 ∧ ∀ f, f ∈ l → OkF f := by
  obtain ⟨ys, rfl, hy, b⟩ := h.sl_of un_24 ag_50
  obtain ⟨frm, e1, e2, e3⟩ := list_in (f := Frm.av) (g := mkAV true) (Q := OkF) (fun y hy' => by
    obtain ⟨x, h1, h2⟩ := Frm_in (hy y hy')
    exact ⟨x, by rw [h1]; rfl, h2⟩)
  have by1 : Try.prog.bytesOf 50 ≠ 0 := by decide +kernel
  have hlen : frm.length < 4611686018427387904 := by
    have h1 : frm.length * 1 ≤ frm.length * Try.prog.bytesOf 50 := Nat.mul_le_mul_left _ (by omega)
    rw [← e2] at b
    have := reach_lt
    omega
  exact ⟨frm, by rw [e1]; rfl, hlen, e3⟩
theorem S_NameExprs {xs : List AV} (h : ShA Try.prog [22, 24, 3, 28, 53] xs) : T Try.prog 5 xs (.bool true) := by
  obtain ⟨y, r, rfl, h0, h⟩ := h.cons_of ag_22
  obtain ⟨y, r, rfl, h1, h⟩ := h.cons_of ag_24
  obtain ⟨y, r, rfl, h2, h⟩ := h.cons_of ag_3
  obtain ⟨y, r, rfl, h3, h⟩ := h.cons_of ag_28
  obtain ⟨y, r, rfl, h4, h⟩ := h.cons_of ag_53
  obtain rfl := h.nil_of
  obtain ⟨ts, rfl, ok, hl⟩ := tabs_in h0
  obtain ⟨fs, e1, hfl, hf⟩ := frms_in h1
  obtain ⟨n, rfl, _⟩ := h2.int_of un_3
  obtain ⟨e, e3, he, _⟩ := Expr_in h3
  obtain ⟨seen, e4, _⟩ := ints_in h4
  subst e1 e3 e4
  have := T_NameExprs ts fs n e seen hl ok hfl hf he
  rw [Ex'.av_eq] at this
  exact this
end Go.Proofs.Ytaahlhhpmooliaa.PL
