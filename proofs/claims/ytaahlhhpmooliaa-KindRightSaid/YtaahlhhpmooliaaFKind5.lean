/- Kinds of a query. -/
import Derived.Test.YtaahlhhpmooliaaFKind3
import Derived.Test.YtaahlhhpmooliaaFKind4
namespace Go.Proofs.Ytaahlhhpmooliaa.PL
open Go.Proofs
set_option linter.unusedVariables false
set_option linter.unusedSimpArgs false
variable {ts : List Tab}
theorem S_idxE (H : List HO) (f : FuncId) (caps : List AV) (own : Own) (l : List Ex') (q : Ex' → Bool) (hl : l.length < 4611686018427387904) (hq : ∀ x, x ∈ l → TS Try.prog f (x.av :: caps) H (pt (.bool (q x)) H)) : TS Try.prog 154 [.sl own (exprs l), .fn (.func f) [] caps] H (pt (.int .i64 (match l.findIdx? q with | some i => (i : Int) | none => -1)) H) := by
  refine TS.body mix Try.func154 (by kernel_rfl) rfl (by kernel_rfl) (by simp) ?_
  simp
  refine vc_loop (fun i : Nat => l.length - i) (fun i e H' => e 0 = .sl own (exprs l) ∧ e 1 = .fn (.func f) [] caps ∧ e 7 = .int .i64 l.length ∧ e 8 = .int .i64 i ∧ i ≤ l.length ∧ (∀ j (h : j < l.length), j < i → q l[j] = false) ∧ H' = H) 0 ?_ ?_
  · simp
  rintro i e H' ⟨h0, h1, h7, h8, hi, hno, rfl⟩
  by_cases hlt : i < l.length
  · have ew := wrap_next hlt (by omega)
    have hqi := hq l[i] (List.getElem_mem hlt)
    simp only [Ex'.av_eq, Ex'.cs] at hqi
    simp [h0, h1, h7, h8, hlt]
    refine TS.pt hqi ?_
    simp [h0, h1, h7, h8, hlt]
    refine condK_of (fun c => ?_) (fun c => ?_)
    · have : l.findIdx? q = some i := by
        rw [List.findIdx?_eq_some_iff_getElem]
        exact ⟨hlt, c, fun j hj => by rw [hno j (by omega) hj]; simp⟩
      rw [this]
      simp
    · simp [h0, h1, h7, h8, hlt]
      refine ⟨i + 1, by omega, ew, by omega, fun j h hj => ?_⟩
      rcases Nat.lt_or_ge j i with h2 | h2
      · exact hno j h h2
      · have : j = i := by omega
        subst this; exact c
  · have : i = l.length := by omega
    subst this
    have : l.findIdx? q = none := by
      rw [List.findIdx?_eq_none_iff]
      intro x hx
      obtain ⟨j, hj, rfl⟩ := List.getElem_of_mem hx
      exact hno j hj hj
    rw [this]
    simp [h0, h1, h7, h8]
theorem S_anyE (H : List HO) (f : FuncId) (caps : List AV) (own : Own) (l : List Ex') (q : Ex' → Bool) (hl : l.length < 4611686018427387904) (hq : ∀ x, x ∈ l → TS Try.prog f (x.av :: caps) H (pt (.bool (q x)) H)) : TS Try.prog 137 [.sl own (exprs l), .fn (.func f) [] caps] H (pt (.bool (l.any q)) H) := by
  refine TS.body mix Try.func137 (by kernel_rfl) rfl (by kernel_rfl) (by simp) ?_
  simp
  refine TS.pt (S_idxE H f caps own l q hl hq) ?_
  have : decide (0 ≤ (match l.findIdx? q with | some i => (i : Int) | none => -1)) = l.any q := by
    cases h : l.findIdx? q with
    | none =>
      rw [List.findIdx?_eq_none_iff] at h
      have : l.any q = false := by rw [List.any_eq_false]; intro x hx; simpa using h x hx
      rw [this]; simp
    | some i =>
      obtain ⟨h1, h2, _⟩ := List.findIdx?_eq_some_iff_getElem.1 h
      rw [List.any_eq_true.2 ⟨_, List.getElem_mem h1, h2⟩]
      simp
  simp [this]
def testE (ts : List Tab) (e : Ex') : Int := match kindE ts e with
  | none => 3
  | some k => if (!truK k || e.sums) = true then 3 else if plainE e = true then 0 else 4
theorem testE_ok {e : Ex'} (h : testE ts e = 0) : (kindE ts e).isSome = true ∧ plainE e = true := by
  unfold testE at h
  cases hk : kindE ts e with
  | none => rw [hk] at h; cases h
  | some k =>
    rw [hk] at h
    dsimp only at h
    split at h
    · cases h
    · split at h
      · exact ⟨rfl, by assumption⟩
      · cases h
def groupedQ (q : Qry) : Bool := decide (0 < q.grp.length) || q.sel.any Ex'.sums
def sameC (c g : Ex') : Bool := decide (g.t = c.t) && decide (g.c = c.c)
def looseC (q : Qry) (c : Ex') : Bool := !(q.grp.any (sameC c))
def groupedE (q : Qry) (e : Ex') : Bool := isSum e.op || (!e.sums && !(e.cols.any (looseC q)))
def condL (ts : List Tab) : List Frm → Int
  | [] => 0
  | f :: fs => if testE ts f.on = 0 then condL ts fs else testE ts f.on
def condQ (ts : List Tab) (q : Qry) : Int := if condL ts (q.frm.drop 1) = 0 then (if q.whr.op = 0 then 0 else testE ts q.whr) else condL ts (q.frm.drop 1)
theorem condL_ok : ∀ {fs : List Frm}, condL ts fs = 0 → ∀ f, f ∈ fs → testE ts f.on = 0
  | g :: fs, h, f, hf => by
    unfold condL at h
    split at h
    · rcases List.mem_cons.1 hf with rfl | hf
      · assumption
      · exact condL_ok h f hf
    · rename_i h'; exact absurd h h'
def grpBad (ts : List Tab) (q : Qry) : Bool := q.grp.any fun g => (kindE ts g).isNone || !decide (g.op = 15)
def itemBad (ts : List Tab) (q : Qry) (x : Ex') : Bool := (kindE ts x).isNone || decide (kindE ts x = some 3) || (groupedQ q && !groupedE q x)
def kcheckC (ts : List Tab) (q : Qry) : Int := if rightsF ts q.frm q.frm.length = false then 2 else if q.frm.length = 0 ∨ q.sel.length = 0 then 3 else if condQ (tabsF ts q.frm) q = 0 then (if (grpBad (tabsF ts q.frm) q || q.sel.any (itemBad (tabsF ts q.frm) q)) = true then 3 else 0) else condQ (tabsF ts q.frm) q
def kcheckL (ts : List Tab) (q : Qry) : List Int := if kcheckC ts q = 0 then (kindL (tabsF ts q.frm) q.sel).getD [] else []
theorem T_test (hts : TsK ts) (e : Ex') (he : OkE e) (hn : e.nodes ≤ 1000000) : T Try.prog 79 [.sl .no (avs Tab.av ts), e.av] (.int .i64 (testE ts e)) := by
  have k1 := T_kOf hts e he hn
  have k2 := T_sums e he
  have k3 := T_plain e he
  simp only [Ex'.av_eq, Ex'.cs] at k1 k2 k3
  refine T.intro (TS.body mix Try.func79 (by kernel_rfl) rfl (by kernel_rfl) (by simp) ?_)
  unfold testE
  simp
  refine TS.callW k1 (Dws.self (by simp)) ?_
  cases hk : kindE ts e with
  | none => simp
  | some k =>
    have kt := T_truth12 k
    simp
    refine TS.callW kt (Dws.self (by simp)) ?_
    cases truK k with
    | false =>
      simp
      refine GTK.callW (fun h => nomatch h) (ys := []) (r := .bool true) ?_
      simp
    | true =>
      simp
      refine GTK.callW (fun _ => ⟨k2, Dws.self (by simp)⟩) ?_
      cases e.sums with
      | true => simp
      | false =>
        simp
        refine TS.callW k3 (Dws.self (by simp)) ?_
        cases plainE e <;> simp
theorem T_groupedQ (q : Qry) (hq : OkQ q) : T Try.prog 82 [q.av] (.bool (groupedQ q)) := by
  have hc := T_anyE 131 q.sel Ex'.sums hq.sel.lt fun x hx => T_sums x (hq.sel.ok x hx)
  refine T.intro (TS.body mix Try.func82 (by kernel_rfl) rfl (by kernel_rfl) (by simp) ?_)
  unfold groupedQ
  simp
  refine GTK.callW (fun _ => ⟨hc, Dws.self (by simp)⟩) ?_
  simp
theorem S_grouped11 (c g : Ex') (H : List HO) (k : Nat) (hk : H[k]? = some (.box c.cs)) : TS Try.prog 139 [g.av, .ptr k 0] H (pt (.bool (sameC c g)) H) := by
  have hkl := (List.getElem?_eq_some_iff.1 hk).1
  have hk' : ∀ X : HO, (H ++ [X])[k]? = some (.box c.cs) := fun X => by rw [List.getElem?_append_left hkl]; exact hk
  refine TS.dropH ?_ rfl
  refine TS.body mix Try.func139 (by kernel_rfl) rfl (by kernel_rfl) (by simp) ?_
  simp [hk']
  rfl
theorem S_grouped1 (q : Qry) (hq : OkQ q) (c : Ex') (H : List HO) (k : Nat) (hk : H[k]? = some (.box q.cs)) : TS Try.prog 138 [c.av, .ptr k 0] H (pt (.bool (looseC q c)) H) := by
  have hkl := (List.getElem?_eq_some_iff.1 hk).1
  have hk' : ∀ X : HO, (H ++ [X])[k]? = some (.box q.cs) := fun X => by rw [List.getElem?_append_left hkl]; exact hk
  have ks := S_anyE (H ++ [.box c.cs]) 139 [.ptr H.length 0] .no q.grp (sameC c) hq.grp.lt fun g _ => S_grouped11 c g _ _ (by simp)
  refine TS.dropH ?_ rfl
  refine TS.body mix Try.func138 (by kernel_rfl) rfl (by kernel_rfl) (by simp) ?_
  simp [hk']
  refine TS.pt ks ?_
  simp [looseC]
theorem T_groupedE (q : Qry) (hq : OkQ q) (e : Ex') (he : OkE e) (hn : e.nodes ≤ 1000000) : T Try.prog 83 [q.av, e.av] (.bool (groupedE q e)) := by
  have k1 := T_sums e he
  have k2 := T_cols e he hn
  have hcl := e.cols_len
  have ks := fun (H : List HO) (h : H[0]? = some (.box q.cs)) => S_anyE H 138 [.ptr 0 0] .no e.cols (looseC q) (by omega) fun c _ => S_grouped1 q hq c _ _ h
  simp only [Ex'.av_eq, Ex'.cs] at k1 k2
  refine T.intro (TS.body mix Try.func83 (by kernel_rfl) rfl (by kernel_rfl) (by simp) ?_)
  unfold groupedE isSum
  simp
  refine condK_of (fun h => ?_) (fun h => ?_)
  · simp at h
    simp [h]
  · have h' : (decide (17 ≤ e.op) && decide (e.op ≤ 21)) = false := by simpa using h
    rw [h', Bool.false_or]
    simp
    refine TS.callW k1 (Dws.self (by simp)) ?_
    cases e.sums with
    | true =>
      simp
      refine GTK.callW (fun h => nomatch h) (ys := []) (r := .bool true) ?_
      simp
      refine GTK.no ?_
      simp
    | false =>
      simp
      refine GTK.callW (fun _ => ⟨k2, Dws.self (by simp)⟩) ?_
      simp
      refine GTK.yes (TS.pt (ks _ rfl) ?_)
      simp
theorem condL_at {fs : List Frm} {i : Nat} (h : i < fs.length) : condL ts (fs.drop i) = if testE ts fs[i].on = 0 then condL ts (fs.drop (i + 1)) else testE ts fs[i].on := by
  rw [List.drop_eq_getElem_cons h, condL]
theorem T_conds (hts : TsK ts) (q : Qry) (hr : OkR q) : T Try.prog 81 [.sl .no (avs Tab.av ts), q.av] (.int .i64 (condQ ts q)) := by
  have hl := hr.len
  refine T.intro (TS.body mix Try.func81 (by kernel_rfl) rfl (by kernel_rfl) (by simp) ?_)
  simp
  refine vc_loop (fun i : Nat => q.frm.length - i) (fun i en H => ∃ J : List HO, en 0 = .sl .no (avs Tab.av ts) ∧ en 3 = .ptr 0 0 ∧ en 9 = .sl .no (frms q.frm) ∧ en 10 = .int .i64 q.frm.length ∧ en 11 = .int .i64 i ∧ i ≤ q.frm.length ∧ condL ts (q.frm.drop 1) = condL ts (q.frm.drop (max i 1)) ∧ H = .box q.cs :: J) 0 ?_ ?_
  · simp
  rintro i en H ⟨J, h0, h3, h9, h10, h11, hi, hx, rfl⟩
  by_cases hlt : i < q.frm.length
  · have ew := wrap_next hlt (by omega)
    have hon := hr.onk _ (List.getElem_mem hlt)
    have kt := T_test hts q.frm[i].on hon.1 hon.2
    simp only [Ex'.av_eq, Ex'.cs] at kt
    by_cases hi0 : i = 0
    · subst hi0
      simp [h0, h3, h9, h10, h11, hlt]
      exact ⟨1, by omega, rfl, by omega, by simp⟩
    · have hm1 : max i 1 = i := by omega
      rw [hm1, condL_at hlt] at hx
      simp [h0, h3, h9, h10, h11, hlt, hi0]
      refine TS.callW kt (Dws.self (by simp)) ?_
      by_cases ht : testE ts q.frm[i].on = 0
      · rw [if_pos ht] at hx
        simp [h0, h3, h9, h10, h11, hlt, hi0, ht]
        refine ⟨i + 1, by omega, ew, by omega, ?_⟩
        have : max (i + 1) 1 = i + 1 := by omega
        rw [this]
        simpa using hx
      · rw [if_neg ht] at hx
        simp [h0, h3, h9, h10, h11, hlt, hi0, ht]
        unfold condQ
        rw [hx, if_neg ht]
  · have hil : i = q.frm.length := by omega
    subst hil
    have kt := T_test hts q.whr hr.whr.1 hr.whr.2
    simp only [Ex'.av_eq, Ex'.cs] at kt
    have hc0 : condL ts (q.frm.drop 1) = 0 := by
      rw [hx, List.drop_of_length_le (by omega)]; rfl
    unfold condQ
    rw [if_pos hc0]
    by_cases hw : q.whr.op = 0
    · simp [h0, h3, h9, h10, h11, hw]
    · simp [h0, h3, h9, h10, h11, hw]
      refine TS.callW kt (Dws.self (by simp)) ?_
      simp
theorem T_rtables12 (hts : TsOk ts) (fs : List Frm) (hl : fs.length ≤ 100000) : T Try.prog 32 [.sl .no (avs Tab.av ts), .sl .no (frms fs)] (.tup [.sl .no (avs Tab.av (if rightsF ts fs fs.length = true then tabsF ts fs else [])), .bool (rightsF ts fs fs.length)]) := by
  have hts2 := hts.1
  refine T.introF (TS.body mix Try.func32 (by kernel_rfl) rfl (by kernel_rfl) (by simp) ?_)
  simp
  refine vc_loop (fun i : Nat => fs.length - i) (fun i en H => ∃ (x : AV), en 0 = .sl .no (avs Tab.av ts) ∧ en 1 = .sl .no (frms fs) ∧ en 6 = x ∧ en 7 = .int .i64 i ∧ i ≤ fs.length ∧ rightsF ts fs i = true ∧ Grow1 3 H x (avs Tab.av (tabsF ts (fs.take i)))) 0 ?_ ?_
  · refine ⟨.sl .nil [], ?_⟩
    simp [rightsF, tabsF, Grow1]
  rintro i en H ⟨x, h0, h1, h6, h7, hi, hr, hg⟩
  by_cases hlt : i < fs.length
  · have kt := T_rright11 hts i hlt (by omega)
    have kf := T_rfind' ts (fs[i]).tab (by omega)
    have ew := wrap_next hlt (by omega)
    have en1 : tabsF ts (fs.take (i + 1)) = tabsF ts (fs.take i) ++ [foundT ts fs[i].tab] := by unfold tabsF; rw [take_next hlt, List.map_append]; rfl
    have hln : (tabsF ts (fs.take i)).length = i := by simp [tabsF]; omega
    simp [h0, h1, h6, h7, hlt]
    refine TS.callW kf (Dws.self (by simp)) ?_
    rcases hg with ⟨ge, rfl⟩ | ⟨t, rfl, ht⟩
    · rw [avs_eq_nil] at ge
      rw [ge] at en1
      simp [h0, h1, h6, h7, hlt]
      refine TS.callW kt (Dws.self (by simp)) ?_
      cases hri : rightF ts fs i with
      | false =>
        rw [rightsF_no hlt hri]
        simp [h0, h1, h6, h7, hlt]
        exact .tup (.cons (Frz.slN (f := Tab.av) (l := [])) (.cons (.cl (by simp)) .nil))
      | true =>
        have hr2 : rightsF ts fs (i + 1) = true := by rw [rightsF_next, hr, hri]; rfl
        simp [h0, h1, h6, h7, hlt]
        refine ⟨i + 1, by omega, ew, by omega, hr2, .inr ⟨H.length + 1, by rw [en1]; rfl, by rw [en1]; simp⟩⟩
    · have htl := (List.getElem?_eq_some_iff.1 ht).1
      have ht' : ∀ Y : List HO, (H ++ Y)[t]? = some (.spare i 3) := fun Y => by rw [List.getElem?_append_left htl]; simpa [hln] using ht
      simp [h0, h1, h6, h7, hlt, ht', hln]
      refine ⟨⟨by omega, by omega⟩, ?_⟩
      refine TS.callW kt (Dws.self (by simp)) ?_
      cases hri : rightF ts fs i with
      | false =>
        rw [rightsF_no hlt hri]
        simp [h0, h1, h6, h7, hlt]
        exact .tup (.cons (Frz.slN (f := Tab.av) (l := [])) (.cons (.cl (by simp)) .nil))
      | true =>
        have hr2 : rightsF ts fs (i + 1) = true := by rw [rightsF_next, hr, hri]; rfl
        simp [h0, h1, h6, h7, hlt]
        refine ⟨i + 1, by omega, ew, by omega, hr2, .inr ⟨t, by rw [en1, ← avs_append]; try rfl, ?_⟩⟩
        rw [List.getElem?_set_self (by simp; omega), en1]
        simp [hln]
  · have hil : i = fs.length := by omega
    subst hil
    rw [List.take_length] at hg
    rw [hr]
    obtain ⟨own, rfl⟩ := hg.own
    simp [h0, h1, h6, h7]
    exact .tup (.cons Frz.slN (.cons (.cl (by simp)) .nil))
theorem any_drop {q : Ex' → Bool} {l : List Ex'} {i : Nat} (h : i < l.length) (hq : q l[i] = true) : l.any q = true := List.any_eq_true.2 ⟨_, List.getElem_mem h, hq⟩
theorem kcheck_rights {q : Qry} (h : rightsF ts q.frm q.frm.length = false) : kcheckC ts q = 2 ∧ kcheckL ts q = [] := by
  have : kcheckC ts q = 2 := by unfold kcheckC; rw [if_pos h]
  exact ⟨this, by unfold kcheckL; rw [this]; rfl⟩
theorem kcheck_empty {q : Qry} (h : rightsF ts q.frm q.frm.length = true) (h1 : q.frm.length = 0 ∨ q.sel.length = 0) : kcheckC ts q = 3 ∧ kcheckL ts q = [] := by
  have : kcheckC ts q = 3 := by unfold kcheckC; rw [h, if_neg (by simp), if_pos h1]
  exact ⟨this, by unfold kcheckL; rw [this]; rfl⟩
theorem kcheck_cond {q : Qry} (h : rightsF ts q.frm q.frm.length = true) (h1 : ¬ (q.frm.length = 0 ∨ q.sel.length = 0)) (h2 : ¬ condQ (tabsF ts q.frm) q = 0) : kcheckC ts q = condQ (tabsF ts q.frm) q ∧ kcheckL ts q = [] := by
  have : kcheckC ts q = condQ (tabsF ts q.frm) q := by unfold kcheckC; rw [h, if_neg (by simp), if_neg h1, if_neg h2]
  exact ⟨this, by unfold kcheckL; rw [this, if_neg h2]⟩
theorem kcheck_bad {q : Qry} (h : rightsF ts q.frm q.frm.length = true) (h1 : ¬ (q.frm.length = 0 ∨ q.sel.length = 0)) (h2 : condQ (tabsF ts q.frm) q = 0) (h3 : (grpBad (tabsF ts q.frm) q || q.sel.any (itemBad (tabsF ts q.frm) q)) = true) : kcheckC ts q = 3 ∧ kcheckL ts q = [] := by
  have : kcheckC ts q = 3 := by unfold kcheckC; rw [h, if_neg (by simp), if_neg h1, if_pos h2, if_pos h3]
  exact ⟨this, by unfold kcheckL; rw [this]; rfl⟩
theorem kcheck_good {q : Qry} (h : rightsF ts q.frm q.frm.length = true) (h1 : ¬ (q.frm.length = 0 ∨ q.sel.length = 0)) (h2 : condQ (tabsF ts q.frm) q = 0) (h3 : (grpBad (tabsF ts q.frm) q || q.sel.any (itemBad (tabsF ts q.frm) q)) = false) : kcheckC ts q = 0 ∧ kcheckL ts q = (kindL (tabsF ts q.frm) q.sel).getD [] := by
  have : kcheckC ts q = 0 := by unfold kcheckC; rw [h, if_neg (by simp), if_neg h1, if_pos h2, h3]; rfl
  exact ⟨this, by unfold kcheckL; rw [this]; rfl⟩
theorem tabsF_ok (hts : TsOk ts) {fs : List Frm} (hl : fs.length ≤ 1000000) : TsK (tabsF ts fs) := by
  refine ⟨by simpa [tabsF] using hl, fun t ht => ?_⟩
  simp only [tabsF, List.mem_map] at ht
  obtain ⟨f, _, rfl⟩ := ht
  have := hts.found f.tab
  omega
set_option maxRecDepth 100000 in
theorem T_kcheck (hts : TsOk ts) (q : Qry) (hq : OkQ q) (hr : OkR q) : T Try.prog 30 [.sl .no (avs Tab.av ts), q.av] (.tup [.sl .no (ints' (kcheckL ts q)), .int .i64 (kcheckC ts q)]) := by
  have hl := hr.len
  have kt := T_tables (fs := q.frm) hts (by omega)
  have hz : ∀ {H : List HO} {c : Int}, Frz H (.tup [.sl .nil [], .int .i64 c]) (.tup [.sl .no (ints' []), .int .i64 c]) := .tup (.cons (Frz.slN (f := AV.int .i64) (l := [])) (.cons (.cl (by simp)) .nil))
  refine T.introF (TS.body mix Try.func30 (by kernel_rfl) rfl (by kernel_rfl) (by simp) ?_)
  simp
  refine TS.callW kt (Dws.self (by simp)) ?_
  cases hri : rightsF ts q.frm q.frm.length with
  | false =>
    rw [(kcheck_rights hri).1, (kcheck_rights hri).2]
    simp
    exact hz
  | true =>
    have htk := tabsF_ok hts (fs := q.frm) (by omega)
    have htl : (tabsF ts q.frm).length = q.frm.length := by simp [tabsF]
    have c1 := T_conds htk q hr
    by_cases h1 : q.frm.length = 0 ∨ q.sel.length = 0
    · rw [(kcheck_empty hri h1).1, (kcheck_empty hri h1).2]
      rcases h1 with h1 | h1
      · simp [htl, h1]
        exact hz
      · simp [htl, h1]
        exact hz
    have h1a : ¬ q.frm = [] := fun e => h1 (.inl (by rw [e]; rfl))
    have h1b : ¬ q.sel = [] := fun e => h1 (.inr (by rw [e]; rfl))
    have h1c : ¬ tabsF ts q.frm = [] := fun e => by rw [e] at htl; exact h1 (.inl htl.symm)
    simp [h1a, h1b, h1c]
    refine TS.callW c1 (Dws.self (by simp)) ?_
    by_cases h2 : condQ (tabsF ts q.frm) q = 0
    case neg =>
      rw [(kcheck_cond hri h1 h2).1, (kcheck_cond hri h1 h2).2]
      simp [h2]
      exact hz
    generalize htb : tabsF ts q.frm = tb at *
    have hgl := hq.grp.lt
    simp [h2]
    refine vc_loop (fun i : Nat => q.grp.length - i) (fun i en H => ∃ J : List HO, en 3 = .ptr 0 0 ∧ en 6 = .sl .no (avs Tab.av tb) ∧ en 44 = .sl .no (exprs q.grp) ∧ en 45 = .int .i64 q.grp.length ∧ en 46 = .int .i64 i ∧ i ≤ q.grp.length ∧ ((q.grp.take i).any fun g => (kindE tb g).isNone || !decide (g.op = 15)) = false ∧ H = .box q.cs :: J) 0 ?_ ?_
    · simp
    rintro i en H ⟨J, e3, e6, e44, e45, e46, hi, hno, rfl⟩
    by_cases hlt : i < q.grp.length
    · have hm := List.getElem_mem hlt
      have hn1 := Ex'.nodesL_mem hm
      have hn2 := hr.grp.2
      have kx := T_kOf htk q.grp[i] (hq.grp.ok _ hm) (by omega)
      have ew := wrap_next hlt (by omega)
      simp only [Ex'.av_eq, Ex'.cs] at kx
      simp [e3, e6, e44, e45, e46, hlt]
      refine TS.callW kx (Dws.self (by simp)) ?_
      by_cases hb : ((kindE tb q.grp[i]).isNone || !decide ((q.grp[i]).op = 15)) = true
      · have hbad : (grpBad tb q || q.sel.any (itemBad tb q)) = true := by
          have : grpBad tb q = true := List.any_eq_true.2 ⟨_, hm, hb⟩
          rw [this]; rfl
        have hk := kcheck_bad hri h1 (by rw [htb]; exact h2) (by rw [htb]; exact hbad)
        rw [hk.1, hk.2]
        cases hkk : kindE tb q.grp[i] with
        | none =>
          simp [e3, e6, e44, e45, e46, hlt]
          exact hz
        | some k =>
          rw [hkk] at hb
          simp at hb
          simp [e3, e6, e44, e45, e46, hlt, hb]
          exact hz
      · have hb' := hb
        simp at hb'
        obtain ⟨hb1, hb2⟩ := hb'
        obtain ⟨k, hkk⟩ := Option.ne_none_iff_exists'.1 hb1
        rw [hkk]
        simp [e3, e6, e44, e45, e46, hlt, hb2]
        refine ⟨i + 1, by omega, ew, by omega, ?_⟩
        have := any_next (q := fun g => (kindE tb g).isNone || !decide (g.op = 15)) hlt hno ((Bool.not_eq_true _).mp hb)
        simpa using this
    have hil : i = q.grp.length := by omega
    subst hil
    rw [List.take_length] at hno
    have hgb : grpBad tb q = false := hno
    have hsl := hq.sel.lt
    have hsn := hr.sel.2
    have hsln := Ex'.len_le q.sel
    simp [e3, e6, e44, e45, e46]
    refine vc_loop (fun i : Nat => q.sel.length - i) (fun i en H => ∃ (M : List Int) (x : AV) (J : List HO), en 3 = .ptr 0 0 ∧ en 6 = .sl .no (avs Tab.av tb) ∧ en 13 = x ∧ en 65 = .sl .no (exprs q.sel) ∧ en 66 = .int .i64 q.sel.length ∧ en 67 = .int .i64 i ∧ i ≤ q.sel.length ∧ ((q.sel.take i).any (itemBad tb q)) = false ∧ M.length = i ∧ kindL tb (q.sel.take i) = some M ∧ GrowK 1 1 J x (ints' M) ∧ H = .box q.cs :: J) 0 ?_ ?_
    · refine ⟨[], .sl .nil [], J, ?_⟩
      simp [kindL, GrowK, e3, e6]
    clear e3 e6 e44 e45 e46 hlt hno J
    rintro i en H ⟨M, x, J, e3, e6, e13, e65, e66, e67, hi, hno, hM, hx, hg, rfl⟩
    by_cases hlt : i < q.sel.length
    · have hm := List.getElem_mem hlt
      have hn1 := Ex'.nodesL_mem hm
      have hsok := hq.sel.ok _ hm
      have kx := T_kOf htk q.sel[i] hsok (by omega)
      have kg := T_groupedQ q hq
      have ke := T_groupedE q hq q.sel[i] hsok (by omega)
      have ew := wrap_next hlt (by omega)
      have es := kindL_snoc (ts := tb) (q.sel.take i) q.sel[i]
      rw [← take_next hlt, hx] at es
      simp only [Ex'.av_eq, Ex'.cs] at kx ke
      have hbad : itemBad tb q q.sel[i] = true → kcheckC ts q = 3 ∧ kcheckL ts q = [] := fun h => by
        refine kcheck_bad hri h1 (by rw [htb]; exact h2) ?_
        rw [htb]
        have : q.sel.any (itemBad tb q) = true := List.any_eq_true.2 ⟨_, hm, h⟩
        rw [this, Bool.or_true]
      simp [e3, e6, e13, e65, e66, e67, hlt]
      refine TS.callW kx (Dws.self (by simp)) ?_
      cases hk : kindE tb q.sel[i] with
      | none =>
        have hb := hbad (by unfold itemBad; rw [hk]; rfl)
        rw [hb.1, hb.2]
        simp [e3, e6, e13, e65, e66, e67, hlt]
        exact hz
      | some k =>
        rw [hk] at es
        by_cases hk3 : k = 3
        · have hb := hbad (by unfold itemBad; rw [hk, hk3]; rfl)
          rw [hb.1, hb.2]
          simp [e3, e6, e13, e65, e66, e67, hlt, hk3]
          exact hz
        · simp [e3, e6, e13, e65, e66, e67, hlt, hk3]
          refine TS.callW kg (Dws.self (by simp)) ?_
          simp [e3, e6, e13, e65, e66, e67, hlt, hk3]
          refine GTK.callW (fun _ => ⟨ke, Dws.self (by simp)⟩) ?_
          simp [e3, e6, e13, e65, e66, e67, hlt, hk3]
          refine condK_of (fun h => ?_) (fun h => ?_)
          · have hb := hbad (by unfold itemBad; rw [hk]; simp at h ⊢; exact .inr h)
            rw [hb.1, hb.2]
            simp [e3, e6, e13, e65, e66, e67, hlt, hk3]
            exact hz
          · have hnb : itemBad tb q q.sel[i] = false := by
              unfold itemBad; rw [hk]; simp at h ⊢; exact ⟨hk3, h⟩
            have hno2 := any_next (q := itemBad tb q) hlt hno hnb
            simp only [Option.map_some] at es
            rcases hg with ⟨ge, rfl⟩ | ⟨t, rfl, ht⟩
            · rw [avs_eq_nil] at ge
              subst ge
              simp [e3, e6, e13, e65, e66, e67, hlt, hk3]
              exact ⟨i + 1, by omega, ew, by omega, by simpa using hno2, [k], by simp at hM; simp; omega, es, .inr ⟨J.length + 1, rfl, by simp⟩⟩
            · have htl := (List.getElem?_eq_some_iff.1 ht).1
              have ht' : ∀ Y : List HO, (J ++ Y)[t]? = some (.spare M.length 1) := fun Y => by rw [List.getElem?_append_left htl]; simpa using ht
              simp [e3, e6, e13, e65, e66, e67, hlt, hk3, ht']
              refine ⟨⟨by omega, by omega⟩, i + 1, by omega, ew, by omega, by simpa using hno2, M ++ [k], by simp; omega, es, .inr ⟨t, rfl, ?_⟩⟩
              rw [List.getElem?_set_self (by simp; omega)]
              simp
    · have hil : i = q.sel.length := by omega
      subst hil
      rw [List.take_length] at hx hno
      have hk := kcheck_good hri h1 (by rw [htb]; exact h2) (by rw [htb, hgb, hno]; rfl)
      rw [hk.1, hk.2, htb, hx]
      obtain ⟨own, rfl⟩ := hg.own
      simp [e3, e6, e13, e65, e66, e67, hlt]
      exact .tup (.cons Frz.slN (.cons (.cl (by simp)) .nil))
end Go.Proofs.Ytaahlhhpmooliaa.PL
