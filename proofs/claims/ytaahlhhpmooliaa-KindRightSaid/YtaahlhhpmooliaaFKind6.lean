/- KindRight. -/
import Derived.Test.YtaahlhhpmooliaaFKind5
namespace Go.Proofs.Ytaahlhhpmooliaa.PL
open Go.Proofs
set_option linter.unusedVariables false
set_option linter.unusedSimpArgs false
variable {ts : List Tab}
theorem T_code12 (n : Int) : T Try.prog 31 [.int .i64 n] (.int .i64 n) := by
  refine T.intro (TS.body mix Try.func31 (by kernel_rfl) rfl (by kernel_rfl) (by simp) ?_)
  simp
def lv12T : List Tab := [⟨⟨#[116]⟩, [⟨⟨#[115]⟩, 2⟩], []⟩]
def lv12E : Ex' := .mk 1 ByteArray.empty ByteArray.empty 0 0 zV [.mk 15 ByteArray.empty ByteArray.empty 0 0 zV [], .mk 16 ByteArray.empty ByteArray.empty 0 0 ⟨1, 1, ByteArray.empty⟩ []]
def lv12C : Ex' := .mk 15 ByteArray.empty ByteArray.empty 0 0 zV []
theorem lv12_ok : OkE lv12E ∧ OkE lv12C ∧ TsK lv12T := by
  have o1 : OkE lv12C := .mk (by simp [lv12C]) (by simp [lv12C, valIn, zV]) (by simp [lv12C]) (by simp [lv12C]) (by simp [lv12C])
  refine ⟨.mk (by simp [lv12E]) (by simp [lv12E, valIn, zV]) (by simp [lv12E]) (by simp [lv12E]) ?_, o1, ⟨by decide, by simp [lv12T]⟩⟩
  intro x hx
  simp [lv12E] at hx
  rcases hx with rfl | rfl
  · exact o1
  · exact .mk (by simp) (by simp [valIn]) (by simp) (by simp) (by simp)
theorem lv12_is : testE lv12T lv12E = 3 ∧ kindE lv12T lv12C = some 2 := by constructor <;> rfl
set_option maxRecDepth 100000 in
theorem T_live12 : T Try.prog 29 [] (.bool true) := by
  obtain ⟨o1, o2, o3⟩ := lv12_ok
  have k1 := T_test o3 lv12E o1 (by decide)
  have k2 := T_kOf o3 lv12C o2 (by decide)
  rw [lv12_is.1] at k1
  rw [lv12_is.2] at k2
  have c3 := T_code12 3
  have c0 := T_code12 0
  simp only [lv12T, lv12E, lv12C, Option.getD_some, Ex'.av_eq, Ex'.cs, op_mk, tab_mk, name_mk, t_mk, c_mk, v_mk, l_mk, zV_k, zV_i, zV_s, avs_nil, avs_cons, Tab.av, Col.av] at k1 k2
  refine T.intro (TS.body mix Try.func29 (by kernel_rfl) rfl (by kernel_rfl) (by simp) ?_)
  simp
  refine TS.callW k1 (by repeat (first | exact .self rfl | constructor)) ?_
  simp
  refine TS.callW k2 (by repeat (first | exact .self rfl | constructor)) ?_
  simp
  refine TS.callW c3 (by repeat (first | exact .self rfl | constructor)) ?_
  simp
  refine GTK.callW (fun _ => ⟨c0, by repeat (first | exact .self rfl | constructor)⟩) ?_
  simp
theorem kindL_get : ∀ {l : List Ex'} {m : List Int}, kindL ts l = some m → ∀ i (h : i < l.length) (h' : i < m.length), kindE ts l[i] = some m[i]
  | e :: l, m, h, i, h1, h2 => by
    simp only [kindL] at h
    cases he : kindE ts e with
    | none => rw [he] at h; cases h
    | some e' =>
      rw [he] at h
      dsimp only at h
      cases hl : kindL ts l with
      | none => rw [hl] at h; cases h
      | some q =>
        rw [hl] at h
        simp at h
        subst h
        cases i with
        | zero => exact he
        | succ i => exact kindL_get hl i (by simpa using h1) (by simpa using h2)
theorem kindL_some : ∀ {l : List Ex'}, (∀ x, x ∈ l → (kindE ts x).isSome = true) → ∃ m, kindL ts l = some m
  | [], _ => ⟨[], by simp only [kindL]⟩
  | e :: l, h => by
    obtain ⟨k, hk⟩ := Option.isSome_iff_exists.1 (h e List.mem_cons_self)
    obtain ⟨m, hm⟩ : ∃ m, kindL ts l = some m := kindL_some fun x hx => h x (List.mem_cons_of_mem _ hx)
    exact ⟨k :: m, by simp only [kindL, hk, hm, Option.map_some]⟩
/-- what is so where the check says that a query may be -/
theorem kcheck_zero {q : Qry} (h : kcheckC ts q = 0) : rightsF ts q.frm q.frm.length = true ∧ (∃ m, kindL (tabsF ts q.frm) q.sel = some m ∧ kcheckL ts q = m) ∧ (∀ f, f ∈ q.frm.drop 1 → testE (tabsF ts q.frm) f.on = 0) ∧ (q.whr.op = 0 ∨ testE (tabsF ts q.frm) q.whr = 0) := by
  cases hri : rightsF ts q.frm q.frm.length with
  | false => rw [(kcheck_rights hri).1] at h; cases h
  | true =>
    by_cases h1 : q.frm.length = 0 ∨ q.sel.length = 0
    · rw [(kcheck_empty hri h1).1] at h; cases h
    by_cases h2 : condQ (tabsF ts q.frm) q = 0
    case neg => rw [(kcheck_cond hri h1 h2).1] at h; exact absurd h h2
    cases h3 : (grpBad (tabsF ts q.frm) q || q.sel.any (itemBad (tabsF ts q.frm) q)) with
    | true => rw [(kcheck_bad hri h1 h2 h3).1] at h; cases h
    | false =>
      have hg := (kcheck_good hri h1 h2 h3).2
      rw [Bool.or_eq_false_iff] at h3
      have hno := any_no h3.2
      obtain ⟨m, hm⟩ := kindL_some (ts := tabsF ts q.frm) (l := q.sel) fun x hx => by
        have := hno x hx
        unfold itemBad at this
        simp at this
        exact this.1.1
      unfold condQ at h2
      split at h2
      · rename_i hc
        refine ⟨rfl, ⟨m, hm, by rw [hg, hm]; rfl⟩, condL_ok hc, ?_⟩
        split at h2
        · rename_i hw; exact .inl hw
        · exact .inr h2
      · rename_i hc; exact absurd h2 hc
theorem resolve_okR {q : Qry} (hq : OkQ q) (hr : OkR q) : OkQ ((resolveF ts q).getD zQ) ∧ OkR ((resolveF ts q).getD zQ) := by
  cases h : resolveF ts q with
  | none =>
    have oz : OkE zE ∧ zE.nodes ≤ 1000000 := ⟨okQ_z.whr, by decide⟩
    exact ⟨okQ_z, ⟨by decide, by simp [zQ], oz, ⟨by simp [zQ], by decide⟩, ⟨by simp [zQ], by decide⟩⟩⟩
  | some p => exact resolve_ok hq hr h
set_option maxRecDepth 100000 in
set_option maxHeartbeats 1000000 in
theorem T_KindRight (ts : List Tab) (q : Qry) (hl : ts.length < 4611686018427387904) (ok : ∀ t, t ∈ ts → TabIn t) (hq : OkQ q) : T Try.prog 6 [.sl .no (avs Tab.av ts), q.av] (.bool true) := by
  have m1 := T_muchT ts hl ok
  have m2 := T_muchQ q hq
  refine T.intro (TS.body mix Try.func6 (by kernel_rfl) rfl (by kernel_rfl) (by simp) ?_)
  simp
  refine TS.callW m1 (Dws.self (by simp)) ?_
  cases e1 : muchT ts with
  | true =>
    simp
    refine GTK.callW (fun h => nomatch h) (ys := []) (r := .bool true) ?_
    simp
    refine TS.callW T_live12 .nil ?_
    simp
  | false =>
    simp
    refine GTK.callW (fun _ => ⟨m2, Dws.self (by simp)⟩) ?_
    cases e2 : muchQ q with
    | true =>
      simp
      refine TS.callW T_live12 .nil ?_
      simp
    | false =>
      have hts := TsOk.of e1
      obtain ⟨hr, hb1, hb2, hb3⟩ := OkR.of hq e2
      have k1 := T_rresolve hts q hr
      have hp := resolve_okR (ts := ts) hq hr
      have k2 := T_kcheck hts _ hp.1 hp.2
      have kc := T_code12 (kcheckC ts ((resolveF ts q).getD zQ))
      simp
      refine TS.callW k1 (Dws.self (by simp)) ?_
      cases hpp : resolveF ts q with
      | none =>
        simp only [hpp] at k2
        simp only [Option.getD_none] at k2
        simp
        refine TS.callW k2 (Dws.self (by simp)) ?_
        simp
        refine GTK.callW (fun h => nomatch h) (ys := []) (r := .bool true) ?_
        simp
        refine TS.callW T_live12 .nil ?_
        simp
      | some p =>
        simp only [hpp, Option.getD_some] at k2 kc hp
        simp
        refine TS.callW k2 (Dws.self (by simp)) ?_
        simp
        refine GTK.callW (fun _ => ⟨kc, Dws.self (by simp)⟩) ?_
        by_cases hz : kcheckC ts p = 0
        case neg =>
          simp [hz]
          refine TS.callW T_live12 .nil ?_
          simp
        obtain ⟨hri, ⟨m, hm, hm2⟩, hcs, hw⟩ := kcheck_zero hz
        obtain ⟨hpq, hpr⟩ := hp
        have kt := T_rtables12 hts p.frm (by have := hpr.len; omega)
        have hlen := kindL_len hm
        have htk := tabsF_ok hts (fs := p.frm) (by have := hpr.len; omega)
        rw [hri] at kt
        simp only [if_true] at kt
        generalize tabsF ts p.frm = tb at *
        simp [hz, hm2]
        refine TS.callW kt (Dws.self (by simp)) ?_
        simp
        refine vc_loop (fun i : Nat => p.sel.length - i) (fun i en H => en 5 = .ptr 1 0 ∧ en 7 = .sl .no (ints' m) ∧ en 9 = .sl .no (avs Tab.av tb) ∧ en 11 = .int .i64 i ∧ i ≤ p.sel.length ∧ H = [.box q.cs, .box p.cs]) 0 ?_ ?_
        · simp
        rintro i en H ⟨e5, e7, e9, e11, hi, rfl⟩
        by_cases hlt : i < p.sel.length
        · have hmm := List.getElem_mem hlt
          have hn1 := Ex'.nodesL_mem hmm
          have hn2 := hpr.sel.2
          have kx := T_rOf htk p.sel[i] (hpq.sel.ok _ hmm) (by omega)
          have ew := wrap_next hlt (by have := hpq.sel.lt; omega)
          have hml : i < m.length := by omega
          have hml2 : ¬ m.length ≤ i := by omega
          rw [kindL_get hm i hlt hml] at kx
          simp only [Ex'.av_eq, Ex'.cs] at kx
          simp [e5, e7, e9, e11, hlt]
          refine TS.callW kx (Dws.self (by simp)) ?_
          simp [e5, e7, e9, e11, hlt, hml, hml2]
          exact ⟨i + 1, by omega, ew, by omega⟩
        simp [e5, e7, e9, e11, hlt]
        have hpl := hpr.len
        refine vc_loop (fun i : Nat => p.frm.length - i) (fun i en H => en 5 = .ptr 1 0 ∧ en 9 = .sl .no (avs Tab.av tb) ∧ en 14 = .int .i64 i ∧ 1 ≤ i ∧ i ≤ max 1 p.frm.length ∧ H = [.box q.cs, .box p.cs]) 1 ?_ ?_
        · simp [e5, e9]; omega
        clear e5 e7 e9 e11 hlt hi
        rintro i en H ⟨e5, e9, e14, hi1, hi, rfl⟩
        by_cases hlt : i < p.frm.length
        · have hmm := List.getElem_mem hlt
          have hon := hpr.onk _ hmm
          have kx := T_rOf htk p.frm[i].on hon.1 hon.2
          have ky := T_rplain p.frm[i].on hon.1 hon.2
          have ew := wrap_next hlt (by omega)
          obtain ⟨t1, t2⟩ := testE_ok (hcs p.frm[i] (by
            have : p.frm[i] = (p.frm.drop 1)[i - 1]'(by rw [List.length_drop]; omega) := by
              rw [List.getElem_drop]; congr 1; omega
            rw [this]; exact List.getElem_mem _))
          rw [t1] at kx
          rw [t2] at ky
          simp only [Ex'.av_eq, Ex'.cs] at kx ky
          simp [e5, e9, e14, hlt]
          refine TS.callW kx (Dws.self (by simp)) ?_
          simp [e5, e9, e14, hlt]
          refine GTK.callW (fun _ => ⟨ky, Dws.self (by simp)⟩) ?_
          simp [e5, e9, e14, hlt]
          exact ⟨i + 1, by omega, ew, by omega⟩
        have kx := T_rOf htk p.whr hpr.whr.1 hpr.whr.2
        have ky := T_rplain p.whr hpr.whr.1 hpr.whr.2
        simp only [Ex'.av_eq, Ex'.cs] at kx ky
        simp [e5, e9, e14, hlt]
        refine TS.callW kx (Dws.self (by simp)) ?_
        by_cases hw0 : p.whr.op = 0
        · simp [e5, e9, e14, hw0]
          refine GTK.callW (fun h => nomatch h) (ys := []) (r := .bool true) ?_
          simp
          refine GTK.callW (fun _ => ⟨T_live12, .nil⟩) ?_
          simp
        · rcases hw with hw | hw
          · exact absurd hw hw0
          obtain ⟨t1, t2⟩ := testE_ok hw
          rw [t2] at ky
          simp [e5, e9, e14, hw0]
          refine GTK.callW (fun _ => ⟨ky, Dws.self (by simp)⟩) ?_
          simp [t1]
          refine GTK.callW (fun _ => ⟨T_live12, .nil⟩) ?_
          simp
theorem S_KindRight {xs : List AV} (h : ShA Try.prog [22, 30] xs) : T Try.prog 6 xs (.bool true) := by
  obtain ⟨y, r, rfl, h0, h⟩ := h.cons_of ag_22
  obtain ⟨y, r, rfl, h1, h⟩ := h.cons_of ag_30
  obtain rfl := h.nil_of
  obtain ⟨ts, rfl, ok, hl⟩ := tabs_in h0
  obtain ⟨q, rfl, hq⟩ := Qry_in h1
  exact T_KindRight ts q hl ok hq
end Go.Proofs.Ytaahlhhpmooliaa.PL
