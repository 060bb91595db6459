/- What names stand for. -/
import Derived.Test.YtaahlhhpmooliaaFTree4
import Derived.Test.YtaahlhhpmooliaaFFind4
import Derived.Test.YtaahlhhpmooliaaFGrow
namespace Go.Proofs.Ytaahlhhpmooliaa.PL
open Go.Proofs
set_option linter.unusedVariables false
set_option linter.unusedSimpArgs false
def aliasF (f : Frm) : ByteArray := if f.al = ByteArray.empty then f.tab else f.al
def hidF (f : Frm) : Bool := decide (f.kind = 3) || decide (f.kind = 4)
theorem T_alias (f : Frm) : T Try.prog 27 [f.av] (.str (aliasF f)) := by
  refine T.intro (TS.body mix Try.func27 (by kernel_rfl) rfl (by kernel_rfl) (by simp) ?_)
  unfold aliasF
  by_cases h : f.al = ByteArray.empty <;> simp [h]
theorem T_ralias (f : Frm) : T Try.prog 28 [f.av] (.str (aliasF f)) := by
  refine T.intro (TS.body mix Try.func28 (by kernel_rfl) rfl (by kernel_rfl) (by simp) ?_)
  unfold aliasF
  by_cases h : f.al = ByteArray.empty <;> simp [h]
theorem T_hidden (f : Frm) : T Try.prog 76 [f.av] (.bool (hidF f)) := by
  refine T.intro (TS.body mix Try.func76 (by kernel_rfl) rfl (by kernel_rfl) (by simp) ?_)
  unfold hidF
  by_cases h : f.kind = 3 <;> simp [h, -ifAV]
/-- the first i that are seen -/
def seenL (fs : List Frm) : Nat → List Int
  | 0 => []
  | i + 1 => seenL fs i ++ match fs[i]? with | some f => if hidF f = true then [] else [(i : Int)] | none => []
def seenF (fs : List Frm) (n : Int) : List Int := if n < 0 ∨ (fs.length : Int) < n then [] else seenL fs n.toNat ++ if n < fs.length then [n] else []
theorem seenL_len (fs : List Frm) : ∀ i, (seenL fs i).length ≤ i
  | 0 => by simp [seenL]
  | i + 1 => by
    have := seenL_len fs i
    simp only [seenL, List.length_append]
    cases fs[i]? with
    | none => simp; omega
    | some f => dsimp only; split <;> simp <;> omega
theorem seenL_next {fs : List Frm} {i : Nat} (h : i < fs.length) : seenL fs (i + 1) = seenL fs i ++ if hidF fs[i] = true then [] else [(i : Int)] := by simp [seenL, h]
theorem T_seen (fs : List Frm) (n : Int) (hl : fs.length ≤ 1000000) : T Try.prog 20 [.sl .no (frms fs), .int .i64 n] (.sl .no (ints' (seenF fs n))) := by
  refine T.introF (TS.body mix Try.func20 (by kernel_rfl) rfl (by kernel_rfl) (by simp) ?_)
  unfold seenF
  by_cases hn : n < 0 ∨ (fs.length : Int) < n
  · rw [if_pos hn]
    by_cases h : n < 0
    · simp [h, -ifAV]
      exact Frz.slN (f := AV.int .i64) (l := [])
    · have h2 : (fs.length : Int) < n := by omega
      simp [h, h2]
      exact Frz.slN (f := AV.int .i64) (l := [])
  rw [if_neg hn]
  obtain ⟨m, rfl⟩ : ∃ m : Nat, n = m := ⟨n.toNat, by omega⟩
  have h1 : ¬ (m : Int) < 0 := by omega
  have h2 : ¬ fs.length < m := by omega
  have h3 : m ≤ fs.length := by omega
  have h3' : min m fs.length = m := by omega
  simp only [Int.toNat_natCast]
  simp [h1, h2, h3, h3']
  refine vc_loop (fun i : Nat => m - i) (fun i e H => ∃ own, e 0 = .sl .no (frms fs) ∧ e 1 = .int .i64 m ∧ e 18 = .sl own (frms (fs.take m)) ∧ e 19 = .int .i64 m ∧ e 20 = .int .i64 i ∧ i ≤ m ∧ Grow1 1 H (e 5) (ints' (seenL fs i))) 0 ?_ ?_
  · simp [Grow1, seenL]
  rintro i e H ⟨own, g0, g1, g18, g19, g20, hi, hg⟩
  by_cases hlt : i < m
  · have hfl : i < fs.length := by omega
    have hmin : i < min m fs.length := by omega
    have hx : (fs.take m)[i]'(by simp; omega) = fs[i] := by simp
    have en := seenL_next hfl
    have hh := T_hidden fs[i]
    have hln := seenL_len fs i
    have ew := wrap_next hlt (by omega)
    have hmm := h3'
    simp [g0, g1, g18, g19, g20, hlt, hfl, hmin]
    refine TS.callW hh (Dws.self (by simp)) ?_
    simp [g0, g1, g18, g19, g20, hlt, hfl]
    refine condK_of (fun q => ?_) (fun q => ?_)
    · simp at q
      rw [if_neg (by simp [q])] at en
      rcases hg with ⟨ge, hg⟩ | ⟨k, hg, ht⟩
      · rw [avs_eq_nil] at ge
        simp [g0, g1, g18, g19, g20, hlt, hg]
        refine ⟨i + 1, by omega, ew, by omega, ?_⟩
        rw [en, List.append_cons]
        exact Grow1.first ge (by simp)
      · have hkl := (List.getElem?_eq_some_iff.1 ht).1
        have ht' : ∀ X : HO, (H ++ [X])[k]? = some (.spare (ints' (seenL fs i)).length 1) := fun X => by rw [List.getElem?_append_left hkl]; exact ht
        simp at ht'
        simp [g0, g1, g18, g19, g20, hlt, hg, ht']
        refine ⟨by omega, i + 1, by omega, ew, by omega, ?_⟩
        rw [en]
        exact Grow1.more (f := AV.int .i64) (by rw [List.getElem?_append_left hkl]; exact ht) (by omega)
    · simp at q
      rw [if_pos q, List.append_nil] at en
      simp [g0, g1, g18, g19, g20, hlt]
      exact ⟨i + 1, by omega, ew, by omega, by rw [en]; exact hg.app⟩
  · have : i = m := by omega
    subst this
    have hln := seenL_len fs i
    by_cases hll : i < fs.length
    · rw [if_pos (by omega)]
      rcases hg with ⟨ge, hg⟩ | ⟨k, hg, ht⟩
      · rw [avs_eq_nil] at ge
        rw [ge]
        simp [g0, g1, g18, g19, g20, hll, hg]
        exact Frz.slN (f := AV.int .i64) (l := [(i : Int)])
      · simp at ht
        simp [g0, g1, g18, g19, g20, hll, hg, ht]
        exact ⟨by omega, Frz.slN (f := AV.int .i64) (l := seenL fs i ++ [(i : Int)])⟩
    · rw [if_neg (by omega), List.append_nil]
      obtain ⟨own2, hg⟩ := hg.own
      simp [g0, g1, g18, g19, g20, hll, hg]
      exact Frz.slN
def seenR (fs : List Frm) (m i : Nat) : List Int := if i ≤ m then seenL fs i else seenL fs m ++ [(m : Int)]
theorem seenR_len (fs : List Frm) (m i : Nat) : (seenR fs m i).length ≤ i := by
  unfold seenR
  split
  · exact seenL_len fs i
  · have := seenL_len fs m
    simp; omega
theorem seenR_next {fs : List Frm} {m i : Nat} (h : i < fs.length) : seenR fs m (i + 1) = seenR fs m i ++ if i = m ∨ i < m ∧ hidF fs[i] = false then [(i : Int)] else [] := by
  unfold seenR
  by_cases h1 : i < m
  · rw [if_pos (by omega), if_pos (by omega), seenL_next h]
    by_cases h2 : hidF fs[i] = true
    · rw [if_pos h2, if_neg (by simp [h2]; omega)]
    · rw [if_neg h2, if_pos (.inr ⟨h1, by simpa using h2⟩)]
  · by_cases h2 : i = m
    · subst h2
      rw [if_neg (by omega), if_pos (Nat.le_refl _), if_pos (.inl rfl)]
    · rw [if_neg (by omega), if_neg (by omega), if_neg (by simp [h2, h1]), List.append_nil]
theorem T_rseen (fs : List Frm) (n : Int) (hl : fs.length ≤ 1000000) : T Try.prog 21 [.sl .no (frms fs), .int .i64 n] (.sl .no (ints' (seenF fs n))) := by
  refine T.introF (TS.body mix Try.func21 (by kernel_rfl) rfl (by kernel_rfl) (by simp) ?_)
  unfold seenF
  by_cases hn : n < 0 ∨ (fs.length : Int) < n
  · rw [if_pos hn]
    simp
    refine vc_rnds 1 ?_
    by_cases h0 : fs.length = 0
    · have : fs = [] := List.eq_nil_of_length_eq_zero h0
      subst this
      simp [-ifAV]
      exact Frz.slN (f := AV.int .i64) (l := [])
    · have h0' : 0 < fs.length := by omega
      by_cases h : n < 0
      · have h' : ¬ 0 ≤ n := by omega
        simp [h', h0', -ifAV]
        exact Frz.slN (f := AV.int .i64) (l := [])
      · have h' : 0 ≤ n := by omega
        have h2 : ¬ n ≤ (fs.length : Int) := by omega
        simp [h', h0', h2]
        exact Frz.slN (f := AV.int .i64) (l := [])
  rw [if_neg hn]
  obtain ⟨m, rfl⟩ : ∃ m : Nat, n = m := ⟨n.toNat, by omega⟩
  have h1 : (0 : Int) ≤ m := by omega
  have h3 : m ≤ fs.length := by omega
  simp only [Int.toNat_natCast]
  simp
  refine vc_loop (fun i : Nat => fs.length - i) (fun i e H => e 0 = .sl .no (frms fs) ∧ e 1 = .int .i64 m ∧ e 6 = .int .i64 i ∧ i ≤ fs.length ∧ Grow1 1 H (e 5) (ints' (seenR fs m i))) 0 ?_ ?_
  · simp [Grow1, seenR, seenL]
  rintro i e H ⟨g0, g1, g6, hi, hg⟩
  by_cases hlt : i < fs.length
  · have en := seenR_next (m := m) hlt
    have hln := seenR_len fs m i
    have ew := wrap_next hlt (by omega)
    simp [g0, g1, g6, hlt, h1, h3]
    by_cases hap : i = m ∨ i < m ∧ hidF fs[i] = false
    · rw [if_pos hap] at en
      have hb : (decide ((i : Int) = m) || decide (i < m) && !decide (fs[i].kind = 3) && !decide (fs[i].kind = 4)) = true := by
        unfold hidF at hap
        rcases hap with h | ⟨h, h2⟩
        · simp [h]
        · simp at h2; simp [h, h2]
      rw [hb]
      repeat (refine ⟨by grind, ?_⟩)
      simp
      rcases hg with ⟨ge, hg⟩ | ⟨k, hg, ht⟩
      · rw [avs_eq_nil] at ge
        simp [g0, g1, g6, hlt, hg]
        refine ⟨i + 1, by omega, ew, by omega, ?_⟩
        rw [en]
        simpa using Grow1.first (f := AV.int .i64) (sz := 1) (H := H) (a := (i : Int)) ge rfl
      · have ht' := ht
        simp at ht'
        simp [g0, g1, g6, hlt, hg, ht']
        refine ⟨by omega, i + 1, by omega, ew, by omega, ?_⟩
        rw [en]
        exact Grow1.more (f := AV.int .i64) ht (by omega)
    · rw [if_neg hap, List.append_nil] at en
      have hb : (decide ((i : Int) = m) || decide (i < m) && !decide (fs[i].kind = 3) && !decide (fs[i].kind = 4)) = false := by
        unfold hidF at hap
        simp at hap ⊢
        refine ⟨by omega, fun h1 h2 => ?_⟩
        have := hap.2 h1
        simp [h2] at this
        exact this
      rw [hb]
      repeat (refine ⟨by grind, ?_⟩)
      simp [g0, g1, g6, hlt]
      exact ⟨i + 1, by omega, ew, by omega, by rw [en]; exact hg⟩
  · have : i = fs.length := by omega
    subst this
    have ef : seenR fs m fs.length = seenL fs m ++ if (m : Int) < fs.length then [(m : Int)] else [] := by
      unfold seenR
      by_cases h : fs.length ≤ m
      · have : m = fs.length := by omega
        subst this
        simp
      · rw [if_neg h, if_pos (by omega)]
    rw [ef] at hg
    obtain ⟨own2, hg⟩ := hg.own
    simp [g0, g1, g6, hg, -ifAV]
    exact Frz.slN
/-- the table of a From, and its column -/
def columnR (ts : List Tab) (f : Frm) (name : ByteArray) : Option Int := (findT ts f.tab).bind fun t => (colIx t.cols name).map fun (i : Nat) => (i : Int)
def TsOk (ts : List Tab) : Prop := ts.length ≤ 1000 ∧ ∀ t, t ∈ ts → t.cols.length ≤ 1000
theorem TsOk.found {ts : List Tab} (h : TsOk ts) (n : ByteArray) : (foundT ts n).cols.length ≤ 1000 := by
  rcases found_mem ts n with e | e
  · rw [e]; simp [noTab]
  · exact h.2 _ e
theorem columnR_some {ts : List Tab} {f : Frm} {name : ByteArray} (h : (findT ts f.tab).isSome = true) : columnR ts f name = (colIx (foundT ts f.tab).cols name).map fun (i : Nat) => (i : Int) := by
  unfold columnR foundT
  cases hf : findT ts f.tab with
  | none => rw [hf] at h; cases h
  | some t => rfl
theorem columnR_none {ts : List Tab} {f : Frm} {name : ByteArray} (h : (findT ts f.tab).isSome = false) : columnR ts f name = none := by
  unfold columnR
  cases hf : findT ts f.tab with
  | none => rfl
  | some t => rw [hf] at h; cases h
theorem T_column (ts : List Tab) (fs : List Frm) (k : Nat) (name : ByteArray) (hk : k < fs.length) (hts : TsOk ts) : T Try.prog 128 [.sl .no (avs Tab.av ts), .sl .no (frms fs), .int .i64 k, .str name] (.tup [.int .i64 ((columnR ts fs[k] name).getD 0), .bool (columnR ts fs[k] name).isSome]) := by
  have hts2 := hts.1
  have f1 := T_find' ts (fs[k]).tab (by omega)
  have f2 := T_scol (foundT ts (fs[k]).tab) name (by have := hts.found (fs[k]).tab; omega)
  have h1 : ¬ (k : Int) < 0 := by omega
  have h2 : ¬ fs.length ≤ k := by omega
  refine T.intro (TS.body mix Try.func128 (by kernel_rfl) rfl (by kernel_rfl) (by simp) ?_)
  simp [hk, h1, h2]
  cases hs : (findT ts (fs[k]).tab).isSome with
  | false =>
    rw [hs] at f1
    rw [columnR_none hs]
    refine TS.callW f1 (Dws.self (by simp)) ?_
    simp
  | true =>
    rw [hs] at f1
    rw [columnR_some hs]
    refine TS.callW f1 (Dws.self (by simp)) ?_
    simp
    refine TS.callW f2 (Dws.self (by simp)) ?_
    simp [colV]
    cases colIx (foundT ts (fs[k]).tab).cols name <;> simp
def fAt (fs : List Frm) (k : Int) : Option Frm := if 0 ≤ k then fs[k.toNat]? else none
def skipF (fs : List Frm) (tab : ByteArray) (k : Int) : Bool := match fAt fs k with | none => true | some f => !decide (tab = ByteArray.empty) && !decide (aliasF f = tab)
def hitK (ts : List Tab) (fs : List Frm) (name : ByteArray) (k : Int) : List (Int × Int) := match fAt fs k with | none => [] | some f => match columnR ts f name with | none => [] | some c => [(k, c)]
def hitsF (ts : List Tab) (fs : List Frm) (tab name : ByteArray) : List Int → List (Int × Int)
  | [] => []
  | k :: ks => if skipF fs tab k = true then hitsF ts fs tab name ks else hitK ts fs name k ++ if tab = ByteArray.empty then hitsF ts fs tab name ks else []
def zE : Ex' := .mk 0 ByteArray.empty ByteArray.empty 0 0 zV []
def colF (ts : List Tab) (fs : List Frm) (seen : List Int) (e : Ex') : Option Ex' := match hitsF ts fs e.tab e.name seen with
  | [p] => (fAt fs p.1).map fun f => .mk 15 (aliasF f) e.name p.1 p.2 zV []
  | _ => none
theorem hitK_le (ts : List Tab) (fs : List Frm) (name : ByteArray) (k : Int) : (hitK ts fs name k).length ≤ 1 := by
  unfold hitK; split <;> (try split) <;> simp
theorem hit_in {ts : List Tab} {fs : List Frm} {name : ByteArray} {k : Int} : ∀ p, p ∈ hitK ts fs name k → ∃ f, fAt fs p.1 = some f := by
  intro p hp
  unfold hitK at hp
  split at hp
  · cases hp
  · rename_i f hf
    split at hp
    · cases hp
    · simp at hp; subst hp; exact ⟨f, hf⟩
theorem hits_in {ts : List Tab} {fs : List Frm} {tab name : ByteArray} : ∀ (ks : List Int) p, p ∈ hitsF ts fs tab name ks → ∃ f, fAt fs p.1 = some f
  | [], p, hp => by cases hp
  | k :: ks, p, hp => by
    unfold hitsF at hp
    split at hp
    · exact hits_in ks p hp
    · rw [List.mem_append] at hp
      rcases hp with hp | hp
      · exact hit_in p hp
      · split at hp
        · exact hits_in ks p hp
        · cases hp
theorem colF_none {ts : List Tab} {fs : List Frm} {seen : List Int} {e : Ex'} {L : List (Int × Int)} (h : hitsF ts fs e.tab e.name seen = L) (hl : ¬ L.length = 1) : colF ts fs seen e = none := by
  unfold colF
  rw [h]
  match L, hl with
  | [], _ => rfl
  | [p], h => exact absurd rfl h
  | p :: q :: r, _ => rfl
theorem colF_one {ts : List Tab} {fs : List Frm} {seen : List Int} {e : Ex'} {p : Int × Int} {f : Frm} (h : hitsF ts fs e.tab e.name seen = [p]) (hf : fAt fs p.1 = some f) : colF ts fs seen e = some (.mk 15 (aliasF f) e.name p.1 p.2 zV []) := by
  unfold colF
  rw [h]
  simp [hf]
theorem one_len {α : Type} {L : List α} (h : L.length = 1) : ∃ p, L = [p] := by
  match L, h with
  | [p], _ => exact ⟨p, rfl⟩
theorem snoc_one {L : List (Int × Int)} {k m : Nat} {c d : Int} (h : L ++ [((k : Int), c)] = [((m : Int), d)]) : L = [] ∧ k = m ∧ c = d := by
  cases L with
  | nil => simp at h; exact ⟨rfl, by omega, h.2⟩
  | cons a l => have := congrArg List.length h; simp at this
theorem fAt_some {fs : List Frm} {k : Int} {f : Frm} (h : fAt fs k = some f) : ∃ (m : Nat) (hm : m < fs.length), k = m ∧ f = fs[m] := by
  unfold fAt at h
  split at h
  · obtain ⟨h1, h2⟩ := List.getElem?_eq_some_iff.1 h
    exact ⟨k.toNat, h1, by omega, h2.symm⟩
  · cases h
theorem frz_zE {H : List HO} {n : Int} : Frz H (.tup [.agg [.int .i64 0, .str ByteArray.empty, .str ByteArray.empty, .int .i64 0, .int .i64 0, .int .i64 0, .int .i64 0, .str ByteArray.empty, .sl .exact []], .int .i64 n]) (.tup [.agg zE.cs, .int .i64 n]) := by
  refine .tup (.cons (.agg ?_) (.cons (.cl (by simp)) .nil))
  repeat (refine .cons (.cl (by simp [zE])) ?_)
  exact .nil
def lastP1 (L : List (Int × Int)) : Int × Int := L.getLastD (0, 0)
theorem T_ncol (ts : List Tab) (fs : List Frm) (seen : List Int) (e : Ex') (hts : TsOk ts) (hs : seen.length ≤ 1000000) : T Try.prog 77 [.sl .no (avs Tab.av ts), .sl .no (frms fs), .sl .no (ints' seen), e.av] (.tup [((colF ts fs seen e).getD zE).av, .int .i64 (if (colF ts fs seen e).isSome = true then 0 else 2)]) := by
  refine T.introF (TS.body mix Try.func77 (by kernel_rfl) rfl (by kernel_rfl) (by simp) ?_)
  simp
  refine vc_loop (fun i : Nat => seen.length - i) (fun i en H => ∃ L : List (Int × Int), en 0 = .sl .no (avs Tab.av ts) ∧ en 1 = .sl .no (frms fs) ∧ en 7 = .ptr 0 0 ∧ en 8 = .ptr 1 0 ∧ en 10 = .int .i64 (lastP1 L).1 ∧ en 11 = .int .i64 (lastP1 L).2 ∧ en 12 = .int .i64 L.length ∧ en 17 = .sl .no (ints' seen) ∧ en 18 = .int .i64 seen.length ∧ en 19 = .int .i64 i ∧ i ≤ seen.length ∧ L.length ≤ i ∧ hitsF ts fs e.tab e.name seen = L ++ hitsF ts fs e.tab e.name (seen.drop i) ∧ ∃ cs1 J, cs1.length = 9 ∧ H = .box e.cs :: .box cs1 :: J) 0 ?_ ?_
  · refine ⟨[], ?_⟩
    simp [lastP1]
  rintro i en H ⟨L, h0, h1, h7, h8, h10, h11, h12, h17, h18, h19, hi, hL, hh, cs1, J, hcs, rfl⟩
  by_cases hlt : i < seen.length
  · rw [List.drop_eq_getElem_cons hlt, hitsF] at hh
    have ew := wrap_next hlt (by omega)
    by_cases hr : 0 ≤ seen[i] ∧ seen[i] < fs.length
    · obtain ⟨k, hk⟩ : ∃ k : Nat, seen[i] = k := ⟨seen[i].toNat, by omega⟩
      have hkl : k < fs.length := by omega
      have n1 : ¬ (k : Int) < 0 := by omega
      have n2 : ¬ fs.length ≤ k := by omega
      have hf : fAt fs k = some fs[k] := by simp [fAt, hkl]
      have fa := T_alias fs[k]
      have fc := T_column ts fs k e.name hkl hts
      rw [hk] at hh
      by_cases ht : e.tab = ByteArray.empty
      · simp [h0, h1, h7, h8, h10, h11, h12, h17, h18, h19, hlt, hk, hkl, n1, n2, ht]
        have hskip : skipF fs e.tab (k : Int) = false := by simp [skipF, hf, ht]
        rw [hskip] at hh
        simp only [Bool.false_eq_true, if_false, ht, if_true] at hh
        refine GTK.callW (fun h => nomatch h) (ys := []) (r := .bool true) ?_
        simp [h0, h1, h7, h8, h10, h11, h12, h17, h18, h19, hlt, hk, hkl, n1, n2, ht]
        refine TS.callW fc (Dws.self (by simp)) ?_
        have hh2 : hitK ts fs e.name (k : Int) = match columnR ts fs[k] e.name with | none => [] | some c => [((k : Int), c)] := by simp only [hitK, hf]
        rw [hh2] at hh
        cases hc : columnR ts fs[k] e.name with
        | none =>
          rw [hc] at hh
          simp only [List.nil_append] at hh
          simp [h0, h1, h7, h8, h10, h11, h12, h17, h18, h19, hlt, hk, hkl, n1, n2, ht]
          exact ⟨i + 1, by omega, L, by simp, by simp, by simp, ew, by omega, by omega, hh, hcs⟩
        | some c =>
          rw [hc] at hh
          have e12 : IntKind.i64.wrap ((L.length : Int) + 1) = ((L ++ [((k : Int), c)]).length : Int) := by rw [wrap_i64 (by omega) (by omega)]; simp
          have elp : lastP1 (L ++ [((k : Int), c)]) = ((k : Int), c) := by simp [lastP1]
          simp [h0, h1, h7, h8, h10, h11, h12, h17, h18, h19, hlt, hk, hkl, n1, n2, ht]
          exact ⟨i + 1, by omega, L ++ [((k : Int), c)], by rw [elp], by rw [elp], e12, ew, by omega, by simp; omega, by rw [hh]; simp, hcs⟩
      · simp [h0, h1, h7, h8, h10, h11, h12, h17, h18, h19, hlt, hk, hkl, n1, n2, ht]
        refine GTK.callW (fun _ => ⟨fa, Dws.self (by simp)⟩) ?_
        simp [h0, h1, h7, h8, h10, h11, h12, h17, h18, h19, hlt, hk, hkl, n1, n2, ht]
        refine condK_of (fun q0 => ?_) (fun q0 => ?_)
        · simp at q0
          have hskip : skipF fs e.tab (k : Int) = true := by simp [skipF, hf, ht, q0]
          rw [if_pos hskip] at hh
          simp [h0, h1, h7, h8, h10, h11, h12, h17, h18, h19, hlt]
          exact ⟨i + 1, by omega, L, by simp, by simp, by simp, ew, by omega, by omega, hh, hcs⟩
        · simp at q0
          have hskip : ¬ skipF fs e.tab (k : Int) = true := by simp [skipF, hf, q0]
          rw [if_neg hskip, if_neg ht, List.append_nil] at hh
          have hh2 : hitK ts fs e.name (k : Int) = match columnR ts fs[k] e.name with | none => [] | some c => [((k : Int), c)] := by simp only [hitK, hf]
          rw [hh2] at hh
          simp [h0, h1, h7, h8, h10, h11, h12, h17, h18, h19, hlt, hk, hkl, n1, n2, ht]
          refine TS.callW fc (Dws.self (by simp)) ?_
          cases hc : columnR ts fs[k] e.name with
          | none =>
            rw [hc] at hh
            simp only [List.append_nil] at hh
            simp [h0, h1, h7, h8, h10, h11, h12, h17, h18, h19, hlt, hk, hkl, n1, n2, ht]
            refine condK_of (fun q => ?_) (fun q => ?_)
            · simp at q
              rw [colF_none hh (by omega)]
              simp [h0, h1, h7, h8, h10, h11, h12, h17, h18, h19, hcs]
              exact frz_zE
            · simp at q
              obtain ⟨p, hp⟩ := one_len (L := L) (by omega)
              rw [hp] at hh
              obtain ⟨f, hf⟩ := hits_in (tab := e.tab) seen p (by rw [hh]; simp)
              rw [colF_one hh hf]
              obtain ⟨m, hm, hm2, rfl⟩ := fAt_some hf
              obtain ⟨p1, p2⟩ := p
              simp only at hm2
              subst hm2
              have fal := T_alias fs[m]
              subst hp; simp only [lastP1, List.getLastD] at h10 h11
              simp [h0, h1, h7, h8, h10, h11, h12, h17, h18, h19, hcs, hm]
              refine TDK.callW fal (Dws.self (by simp)) ?_
              simp [h0, h1, h7, h8, h10, h11, h12, h17, h18, h19, hcs, hm]
              refine .tup (.cons (.agg ?_) (.cons (.cl (by simp)) .nil))
              repeat (refine .cons (.cl (by simp)) ?_)
              exact .nil
          | some c =>
            rw [hc] at hh
            have e12 : IntKind.i64.wrap ((L.length : Int) + 1) = (L.length : Int) + 1 := wrap_i64 (by omega) (by omega)
            simp [h0, h1, h7, h8, h10, h11, h12, h17, h18, h19, hlt, hk, hkl, n1, n2, ht, e12]
            refine condK_of (fun q => ?_) (fun q => ?_)
            · simp at q
              rw [colF_none hh (by rw [List.length_append, List.length_singleton]; omega)]
              simp [h0, h1, h7, h8, h10, h11, h12, h17, h18, h19, hcs]
              exact frz_zE
            · simp at q
              obtain ⟨p, hp⟩ := one_len (L := L ++ [((k : Int), c)]) (by rw [List.length_append, List.length_singleton]; omega)
              rw [hp] at hh
              obtain ⟨f, hf⟩ := hits_in (tab := e.tab) seen p (by rw [hh]; simp)
              rw [colF_one hh hf]
              obtain ⟨m, hm, hm2, rfl⟩ := fAt_some hf
              obtain ⟨p1, p2⟩ := p
              simp only at hm2
              subst hm2
              have fal := T_alias fs[m]
              obtain ⟨rfl, rfl, rfl⟩ := snoc_one hp
              simp [h0, h1, h7, h8, h10, h11, h12, h17, h18, h19, hcs, hm]
              refine TDK.callW fal (Dws.self (by simp)) ?_
              simp [h0, h1, h7, h8, h10, h11, h12, h17, h18, h19, hcs, hm]
              refine .tup (.cons (.agg ?_) (.cons (.cl (by simp)) .nil))
              repeat (refine .cons (.cl (by simp)) ?_)
              exact .nil
    · have hskip : skipF fs e.tab seen[i] = true := by
        have : fAt fs seen[i] = none := by
          unfold fAt
          split
          · exact List.getElem?_eq_none (by omega)
          · rfl
        simp [skipF, this]
      rw [if_pos hskip] at hh
      by_cases hneg : seen[i] < 0
      · simp [h0, h1, h7, h8, h10, h11, h12, h17, h18, h19, hlt, hneg, -ifAV]
        refine GTK.callW (fun h => nomatch h) (ys := []) (r := .bool true) ?_
        simp [h0, h1, h7, h8, h10, h11, h12, h17, h18, h19, hlt, hneg, -ifAV]
        exact ⟨i + 1, by omega, L, by simp, by simp, by simp, ew, by omega, by omega, hh, hcs⟩
      · have hbig : (fs.length : Int) ≤ seen[i] := by omega
        simp [h0, h1, h7, h8, h10, h11, h12, h17, h18, h19, hlt, hneg, hbig, -ifAV]
        refine GTK.callW (fun h => nomatch h) (ys := []) (r := .bool true) ?_
        simp [h0, h1, h7, h8, h10, h11, h12, h17, h18, h19, hlt, hneg, hbig, -ifAV]
        exact ⟨i + 1, by omega, L, by simp, by simp, by simp, ew, by omega, by omega, hh, hcs⟩
  · have hil : i = seen.length := by omega
    subst hil
    rw [List.drop_length, hitsF, List.append_nil] at hh
    simp [h0, h1, h7, h8, h10, h11, h12, h17, h18, h19]
    refine condK_of (fun q => ?_) (fun q => ?_)
    · simp at q
      rw [colF_none hh (by omega)]
      simp [h0, h1, h7, h8, h10, h11, h12, h17, h18, h19, hcs]
      exact frz_zE
    · simp at q
      obtain ⟨p, hp⟩ := one_len (L := L) (by omega)
      rw [hp] at hh
      obtain ⟨f, hf⟩ := hits_in (tab := e.tab) seen p (by rw [hh]; simp)
      rw [colF_one hh hf]
      obtain ⟨m, hm, hm2, rfl⟩ := fAt_some hf
      obtain ⟨p1, p2⟩ := p
      simp only at hm2
      subst hm2
      have fal := T_alias fs[m]
      subst hp; simp only [lastP1, List.getLastD] at h10 h11
      simp [h0, h1, h7, h8, h10, h11, h12, h17, h18, h19, hcs, hm]
      refine TDK.callW fal (Dws.self (by simp)) ?_
      simp [h0, h1, h7, h8, h10, h11, h12, h17, h18, h19, hcs, hm]
      refine .tup (.cons (.agg ?_) (.cons (.cl (by simp)) .nil))
      repeat (refine .cons (.cl (by simp)) ?_)
      exact .nil
def fsA (p : Int × Int) : AV := .int .i64 p.1
def snA (p : Int × Int) : AV := .int .i64 p.2
instance : Sized fsA 1 := ⟨fun _ => rfl⟩
instance : Plain fsA := ⟨fun _ => rfl⟩
instance : Sized snA 1 := ⟨fun _ => rfl⟩
instance : Plain snA := ⟨fun _ => rfl⟩
def Two (H : List HO) (x y : AV) (L : List (Int × Int)) : Prop := (L = [] ∧ x = .sl .nil [] ∧ y = .sl .nil []) ∨ ∃ j k, j ≠ k ∧ x = .sl (.tok j) (avs fsA L) ∧ y = .sl (.tok k) (avs snA L) ∧ H[j]? = some (.spare L.length 1) ∧ H[k]? = some (.spare L.length 1)
theorem Two.app {H J : List HO} {x y : AV} {L : List (Int × Int)} (h : Two H x y L) : Two (H ++ J) x y L := by
  rcases h with h | ⟨j, k, h1, h2, h3, h4, h5⟩
  · exact .inl h
  · exact .inr ⟨j, k, h1, h2, h3, by rw [List.getElem?_append_left (List.getElem?_eq_some_iff.1 h4).1]; exact h4, by rw [List.getElem?_append_left (List.getElem?_eq_some_iff.1 h5).1]; exact h5⟩
theorem Two.own {H : List HO} {x y : AV} {L : List (Int × Int)} (h : Two H x y L) : ∃ o1 o2, x = .sl o1 (avs fsA L) ∧ y = .sl o2 (avs snA L) := by
  rcases h with ⟨rfl, h1, h2⟩ | ⟨j, k, _, h1, h2, _⟩
  · exact ⟨_, _, h1, h2⟩
  · exact ⟨_, _, h1, h2⟩
/-- what the reference tells of the hits -/
def oneH (L : List (Int × Int)) : AV := match L with | [p] => .tup [.int .i64 p.1, .int .i64 p.2, .bool true] | _ => .tup [.int .i64 0, .int .i64 0, .bool false]
theorem oneH_no {L : List (Int × Int)} (h : ¬ L.length = 1) : oneH L = .tup [.int .i64 0, .int .i64 0, .bool false] := by
  match L, h with
  | [], _ => rfl
  | [p], h => exact absurd rfl h
  | p :: q :: r, _ => rfl
set_option maxHeartbeats 1000000 in
set_option maxRecDepth 100000 in
theorem T_rfind11 (ts : List Tab) (fs : List Frm) (seen : List Int) (tab name : ByteArray) (hts : TsOk ts) (hs : seen.length ≤ 1000000) : T Try.prog 78 [.sl .no (avs Tab.av ts), .sl .no (frms fs), .sl .no (ints' seen), .str tab, .str name] (oneH (hitsF ts fs tab name seen)) := by
  have hts2 := hts.1
  refine T.intro (TS.body mix Try.func78 (by kernel_rfl) rfl (by kernel_rfl) (by simp) ?_)
  simp
  refine vc_loop (fun i : Nat => seen.length - i) (fun i en H => ∃ L : List (Int × Int), en 0 = .sl .no (avs Tab.av ts) ∧ en 1 = .sl .no (frms fs) ∧ en 2 = .sl .no (ints' seen) ∧ en 3 = .str tab ∧ en 4 = .str name ∧ en 15 = .int .i64 i ∧ i ≤ seen.length ∧ L.length ≤ i ∧ hitsF ts fs tab name seen = L ++ hitsF ts fs tab name (seen.drop i) ∧ Two H (en 13) (en 14) L) 0 ?_ ?_
  · refine ⟨[], ?_⟩
    simp [Two]
  rintro i en H ⟨L, h0, h1, h2, h3, h4, h15, hi, hL, hh, htw⟩
  by_cases hlt : i < seen.length
  · rw [List.drop_eq_getElem_cons hlt, hitsF] at hh
    have ew := wrap_next hlt (by omega)
    by_cases hr : 0 ≤ seen[i] ∧ seen[i] < fs.length
    · obtain ⟨k, hk⟩ : ∃ k : Nat, seen[i] = k := ⟨seen[i].toNat, by omega⟩
      have hkl : k < fs.length := by omega
      have n1 : ¬ (k : Int) < 0 := by omega
      have n2 : ¬ fs.length ≤ k := by omega
      have hf : fAt fs k = some fs[k] := by simp [fAt, hkl]
      have fa := T_ralias fs[k]
      have f1 := T_rfind' ts (fs[k]).tab (by omega)
      have f2 := T_rcol (foundT ts (fs[k]).tab) name (by have := hts.found (fs[k]).tab; omega)
      rw [hk] at hh
      by_cases ht : tab = ByteArray.empty
      · subst ht
        simp [h0, h1, h2, h3, h4, h15, hlt, hk, hkl, n1, n2]
        refine GTK.callW (fun h => nomatch h) (ys := []) (r := .bool true) ?_
        simp [h0, h1, h2, h3, h4, h15, hlt, hk, hkl, n1, n2]
        have hskip : ¬ skipF fs ByteArray.empty (k : Int) = true := by simp [skipF, hf]
        rw [if_neg hskip, if_pos rfl] at hh
        cases hs2 : (findT ts (fs[k]).tab).isSome with
        | false =>
          have hh2 : hitK ts fs name (k : Int) = [] := by simp only [hitK, hf, columnR_none hs2]
          rw [hh2, List.nil_append] at hh
          rw [hs2] at f1
          obtain ⟨o1, o2, h13, h14⟩ := htw.own
          refine TS.callW f1 (Dws.self (by simp)) ?_
          simp [h0, h1, h2, h3, h4, h15, hlt, hk, hkl, n1, n2, h13, h14]
          refine TS.callW f2 (Dws.self (by simp)) ?_
          simp [h0, h1, h2, h3, h4, h15, hlt, hk, hkl, n1, n2, h13, h14, -ifAV]
          exact ⟨i + 1, by omega, ew, by omega, L, by omega, by rw [hh], by rw [← h13, ← h14]; exact htw.app⟩
        | true =>
          rw [hs2] at f1
          refine TS.callW f1 (Dws.self (by simp)) ?_
          simp [h0, h1, h2, h3, h4, h15, hlt, hk, hkl, n1, n2]
          refine TS.callW f2 (Dws.self (by simp)) ?_
          cases hc : colIx (foundT ts (fs[k]).tab).cols name with
          | none =>
            have hh2 : hitK ts fs name (k : Int) = [] := by simp only [hitK, hf, columnR_some hs2, hc, Option.map_none]
            rw [hh2, List.nil_append] at hh
            obtain ⟨o1, o2, h13, h14⟩ := htw.own
            simp [h0, h1, h2, h3, h4, h15, hlt, hk, hkl, n1, n2, h13, h14, hc]
            exact ⟨i + 1, by omega, ew, by omega, L, by omega, by rw [hh], by rw [← h13, ← h14]; exact htw.app⟩
          | some c =>
            have hh2 : hitK ts fs name (k : Int) = [((k : Int), (c : Int))] := by simp only [hitK, hf, columnR_some hs2, hc, Option.map_some]
            rw [hh2] at hh
            rcases htw with ⟨rfl, h13, h14⟩ | ⟨j, q, hjq, h13, h14, hj, hq⟩
            · simp [h0, h1, h2, h3, h4, h15, hlt, hk, hkl, n1, n2, h13, h14, hc, colV]
              exact ⟨i + 1, by omega, ew, by omega, [((k : Int), (c : Int))], by simp, by rw [hh]; simp, .inr ⟨H.length + 1, H.length + 2, by omega, rfl, rfl, by simp, by simp⟩⟩
            · have hjl := (List.getElem?_eq_some_iff.1 hj).1
              have hql := (List.getElem?_eq_some_iff.1 hq).1
              have hj2 : ∀ X : HO, (H ++ [X])[j]? = some (.spare L.length 1) := fun X => by rw [List.getElem?_append_left hjl]; exact hj
              have hq2 : ∀ X Y : HO, ((H ++ [X]).set j Y)[q]? = some (.spare L.length 1) := fun X Y => by rw [List.getElem?_set_ne hjq, List.getElem?_append_left hql]; exact hq
              simp [h0, h1, h2, h3, h4, h15, hlt, hk, hkl, n1, n2, h13, h14, hc, hj2, hq2, colV]
              refine ⟨by omega, i + 1, by omega, ew, by omega, L ++ [((k : Int), (c : Int))], by simp; omega, by rw [hh]; simp, .inr ⟨j, q, hjq, by rw [← avs_append]; rfl, by rw [← avs_append]; rfl, ?_, ?_⟩⟩
              · rw [List.getElem?_set_ne (Ne.symm hjq), List.getElem?_set_self (by simp; omega)]; simp
              · rw [List.getElem?_set_self (by simp; omega)]; simp
          -- end
      · simp [h0, h1, h2, h3, h4, h15, hlt, hk, hkl, n1, n2, ht]
        refine GTK.callW (fun _ => ⟨fa, Dws.self (by simp)⟩) ?_
        simp [h0, h1, h2, h3, h4, h15, hlt, hk, hkl, n1, n2, ht]
        refine condK_of (fun q0 => ?_) (fun q0 => ?_)
        · simp at q0
          have hskip : skipF fs tab (k : Int) = true := by simp [skipF, hf, ht]; exact fun e => q0 e.symm
          rw [if_pos hskip] at hh
          simp [h0, h1, h2, h3, h4, h15, hlt, hk, hkl, n1, n2]
          exact ⟨i + 1, by omega, ew, by omega, L, by omega, hh, htw⟩
        · simp at q0
          have hskip : ¬ skipF fs tab (k : Int) = true := by simp [skipF, hf, q0]
          rw [if_neg hskip, if_neg ht, List.append_nil] at hh
          simp [h0, h1, h2, h3, h4, h15, hlt, hk, hkl, n1, n2, ht]
          cases hs2 : (findT ts (fs[k]).tab).isSome with
          | false =>
            have hh2 : hitK ts fs name (k : Int) = [] := by simp only [hitK, hf, columnR_none hs2]
            rw [hh2] at hh
            rw [hs2] at f1
            obtain ⟨o1, o2, h13, h14⟩ := htw.own
            refine TS.callW f1 (Dws.self (by simp)) ?_
            simp [h0, h1, h2, h3, h4, h15, hlt, hk, hkl, n1, n2, ht, h13, h14]
            refine TS.callW f2 (Dws.self (by simp)) ?_
            simp [h0, h1, h2, h3, h4, h15, hlt, hk, hkl, n1, n2, ht, h13, h14, -ifAV]
            rw [hh, List.append_nil]
            refine condK_of (fun q => ?_) (fun q => ?_)
            · simp at q
              rw [oneH_no (by omega)]
              simp
            · simp at q
              obtain ⟨p, rfl⟩ := one_len (L := L) (by omega)
              simp [h13, h14, oneH, fsA, snA]
          | true =>
            rw [hs2] at f1
            refine TS.callW f1 (Dws.self (by simp)) ?_
            simp [h0, h1, h2, h3, h4, h15, hlt, hk, hkl, n1, n2, ht]
            refine TS.callW f2 (Dws.self (by simp)) ?_
            cases hc : colIx (foundT ts (fs[k]).tab).cols name with
            | none =>
              have hh2 : hitK ts fs name (k : Int) = [] := by simp only [hitK, hf, columnR_some hs2, hc, Option.map_none]
              rw [hh2] at hh
              obtain ⟨o1, o2, h13, h14⟩ := htw.own
              simp [h0, h1, h2, h3, h4, h15, hlt, hk, hkl, n1, n2, ht, h13, h14, hc]
              rw [hh, List.append_nil]
              refine condK_of (fun q => ?_) (fun q => ?_)
              · simp at q
                rw [oneH_no (by omega)]
                simp
              · simp at q
                obtain ⟨p, rfl⟩ := one_len (L := L) (by omega)
                simp [h13, h14, oneH, fsA, snA]
            | some c =>
              have hh2 : hitK ts fs name (k : Int) = [((k : Int), (c : Int))] := by simp only [hitK, hf, columnR_some hs2, hc, Option.map_some]
              rw [hh2] at hh
              rcases htw with ⟨rfl, h13, h14⟩ | ⟨j, q, hjq, h13, h14, hj, hq⟩
              · simp [h0, h1, h2, h3, h4, h15, hlt, hk, hkl, n1, n2, ht, h13, h14, hc, colV]
                rw [hh]
                simp [oneH, fsA, snA]
              · have hjl := (List.getElem?_eq_some_iff.1 hj).1
                have hql := (List.getElem?_eq_some_iff.1 hq).1
                have hj2 : ∀ X : HO, (H ++ [X])[j]? = some (.spare L.length 1) := fun X => by rw [List.getElem?_append_left hjl]; exact hj
                have hq2 : ∀ X Y : HO, ((H ++ [X]).set j Y)[q]? = some (.spare L.length 1) := fun X Y => by rw [List.getElem?_set_ne hjq, List.getElem?_append_left hql]; exact hq
                simp [h0, h1, h2, h3, h4, h15, hlt, hk, hkl, n1, n2, ht, h13, h14, hc, hj2, hq2, colV]
                refine ⟨by omega, ?_⟩
                rw [hh]
                refine condK_of (fun q => ?_) (fun q => ?_)
                · rw [oneH_no (by rw [List.length_append, List.length_singleton]; simp at q; omega)]
                  simp
                · have hL0 : L = [] := List.eq_nil_of_length_eq_zero (by simp at q; omega)
                  subst hL0
                  simp [oneH, fsA, snA]
            -- end
    · have hskip : skipF fs tab seen[i] = true := by
        have : fAt fs seen[i] = none := by
          unfold fAt
          split
          · exact List.getElem?_eq_none (by omega)
          · rfl
        simp [skipF, this]
      rw [if_pos hskip] at hh
      by_cases hneg : seen[i] < 0
      · simp [h0, h1, h2, h3, h4, h15, hlt, hneg, -ifAV]
        refine GTK.callW (fun h => nomatch h) (ys := []) (r := .bool true) ?_
        simp [h0, h1, h2, h3, h4, h15, hlt, hneg, -ifAV]
        exact ⟨i + 1, by omega, ew, by omega, L, by omega, hh, htw⟩
      · have hbig : (fs.length : Int) ≤ seen[i] := by omega
        simp [h0, h1, h2, h3, h4, h15, hlt, hneg, hbig, -ifAV]
        refine GTK.callW (fun h => nomatch h) (ys := []) (r := .bool true) ?_
        simp [h0, h1, h2, h3, h4, h15, hlt, hneg, hbig, -ifAV]
        exact ⟨i + 1, by omega, ew, by omega, L, by omega, hh, htw⟩
  · have hil : i = seen.length := by omega
    subst hil
    rw [List.drop_length, hitsF, List.append_nil] at hh
    rw [hh]
    obtain ⟨o1, o2, h13, h14⟩ := htw.own
    simp [h0, h1, h2, h3, h4, h15, h13, h14]
    refine condK_of (fun q => ?_) (fun q => ?_)
    · simp at q
      rw [oneH_no (by omega)]
      simp
    · simp at q
      obtain ⟨p, rfl⟩ := one_len (L := L) (by omega)
      simp [h13, h14, oneH, fsA, snA]
end Go.Proofs.Ytaahlhhpmooliaa.PL
