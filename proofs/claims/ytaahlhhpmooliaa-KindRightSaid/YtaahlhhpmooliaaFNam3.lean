/- Queries, their names told. -/
import Derived.Test.YtaahlhhpmooliaaFNam2
namespace Go.Proofs.Ytaahlhhpmooliaa.PL
open Go.Proofs
set_option linter.unusedVariables false
set_option linter.unusedSimpArgs false
variable {ts : List Tab} {fs : List Frm}
/-- does the i-th From name a table, by a name of its own -/
def twiceF (fs : List Frm) (i : Nat) : Bool := (fs.take i).any fun f => decide (aliasF f = aliasF (fs.getD i ⟨0, ByteArray.empty, ByteArray.empty, zE⟩))
def rightF (ts : List Tab) (fs : List Frm) (i : Nat) : Bool := (findT ts (fs.getD i ⟨0, ByteArray.empty, ByteArray.empty, zE⟩).tab).isSome && !twiceF fs i
theorem T_rright11 (hts : TsOk ts) (i : Nat) (hi : i < fs.length) (hl : fs.length ≤ 1000000) : T Try.prog 26 [.sl .no (avs Tab.av ts), .sl .no (frms fs), .int .i64 i] (.bool (rightF ts fs i)) := by
  have hts2 := hts.1
  have f1 := T_rfind' ts (fs[i]).tab (by omega)
  have e0 : fs.getD i ⟨0, ByteArray.empty, ByteArray.empty, zE⟩ = fs[i] := by simp [hi]
  unfold rightF
  rw [e0]
  refine T.intro (TS.body mix Try.func26 (by kernel_rfl) rfl (by kernel_rfl) (by simp) ?_)
  simp [hi]
  refine TS.callW f1 (Dws.self (by simp)) ?_
  simp [hi]
  refine vc_loop (fun j : Nat => i - j) (fun j en H => en 1 = .sl .no (frms fs) ∧ en 2 = .int .i64 i ∧ en 8 = .bool (findT ts (fs[i]).tab).isSome ∧ en 9 = .int .i64 j ∧ j ≤ i ∧ ((fs.take j).any fun f => decide (aliasF f = aliasF fs[i])) = false) 0 ?_ ?_
  · simp
  rintro j en H ⟨h1, h2, h8, h9, hj, ha⟩
  by_cases hlt : j < i
  · have hjl : j < fs.length := by omega
    have k1 := T_ralias fs[j]
    have k2 := T_ralias fs[i]
    simp [h1, h2, h8, h9, hlt, hjl, hi]
    refine TDK.callW k1 (Dws.self (by simp)) ?_
    simp [h1, h2, h8, h9, hlt, hjl, hi]
    refine TDK.callW k2 (Dws.self (by simp)) ?_
    simp [h1, h2, h8, h9, hlt, hjl, hi]
    refine condK_of (fun q => ?_) (fun q => ?_)
    · simp at q
      have : twiceF fs i = true := by
        unfold twiceF
        rw [e0]
        exact List.any_eq_true.2 ⟨fs[j], by rw [List.mem_take_iff_getElem]; exact ⟨j, by omega, rfl⟩, by simp [q]⟩
      rw [this]
      simp
    · simp at q
      simp [h1, h2, h8, h9, hlt]
      refine ⟨j + 1, by omega, wrap_next hlt (by omega), by omega, ?_⟩
      have := any_next (q := fun f => decide (aliasF f = aliasF fs[i])) hjl ha (by simp [q])
      simpa using this
  · have : j = i := by omega
    subst this
    have : twiceF fs j = false := by unfold twiceF; rw [e0]; exact ha
    rw [this]
    simp [h1, h2, h8, h9]
theorem S_table1 (f : Frm) (i : Nat) (hi : i < fs.length) (H : List HO) (p q : Nat) (hp : H[p]? = some (.box [.sl .no (frms fs)])) (hq : H[q]? = some (.box [.int .i64 i])) : TS Try.prog 127 [f.av, .ptr p 0, .ptr q 0] H (pt (.bool (decide (aliasF f = aliasF fs[i]))) H) := by
  have hpl := (List.getElem?_eq_some_iff.1 hp).1
  have hql := (List.getElem?_eq_some_iff.1 hq).1
  have hp' : ∀ X : HO, (H ++ [X])[p]? = some (.box [.sl .no (frms fs)]) := fun X => by rw [List.getElem?_append_left hpl]; exact hp
  have hq' : ∀ X : HO, (H ++ [X])[q]? = some (.box [.int .i64 i]) := fun X => by rw [List.getElem?_append_left hql]; exact hq
  have k1 := T_alias f
  have k2 := T_alias fs[i]
  refine TS.dropH ?_ rfl
  refine TS.body mix Try.func127 (by kernel_rfl) rfl (by kernel_rfl) (by simp) ?_
  simp [hp', hq', hi]
  refine TDK.callW k1 (Dws.self (by simp)) ?_
  simp [hp', hq', hi]
  refine TDK.callW k2 (Dws.self (by simp)) ?_
  simp
theorem S_idxF (H : List HO) (f : FuncId) (caps : List AV) (own : Own) (l : List Frm) (q : Frm → Bool) (hl : l.length < 4611686018427387904) (hq : ∀ x, x ∈ l → TS Try.prog f (x.av :: caps) H (pt (.bool (q x)) H)) : TS Try.prog 148 [.sl own (frms l), .fn (.func f) [] caps] H (pt (.int .i64 (match l.findIdx? q with | some i => (i : Int) | none => -1)) H) := by
  refine TS.body mix Try.func148 (by kernel_rfl) rfl (by kernel_rfl) (by simp) ?_
  simp
  refine vc_loop (fun i : Nat => l.length - i) (fun i e H' => e 0 = .sl own (frms l) ∧ e 1 = .fn (.func f) [] caps ∧ e 7 = .int .i64 l.length ∧ e 8 = .int .i64 i ∧ i ≤ l.length ∧ (∀ j (h : j < l.length), j < i → q l[j] = false) ∧ H' = H) 0 ?_ ?_
  · simp
  rintro i e H' ⟨h0, h1, h7, h8, hi, hno, rfl⟩
  by_cases hlt : i < l.length
  · have ew := wrap_next hlt (by omega)
    have hqi := hq l[i] (List.getElem_mem hlt)
    simp [h0, h1, h7, h8, hlt]
    refine TS.pt hqi ?_
    simp [h0, h1, h7, h8, hlt]
    refine condK_of (fun c => ?_) (fun c => ?_)
    · have : l.findIdx? q = some i := by
        rw [List.findIdx?_eq_some_iff_getElem]
        exact ⟨hlt, c, fun j hj => by rw [hno j (by omega) hj]; simp⟩
      rw [this]
      simp
    · simp [h0, h1, h7, h8, hlt]
      refine ⟨i + 1, by omega, ew, by omega, fun j h hj => ?_⟩
      rcases Nat.lt_or_ge j i with h2 | h2
      · exact hno j h h2
      · have : j = i := by omega
        subst this; exact c
  · have : i = l.length := by omega
    subst this
    have : l.findIdx? q = none := by
      rw [List.findIdx?_eq_none_iff]
      intro x hx
      obtain ⟨j, hj, rfl⟩ := List.getElem_of_mem hx
      exact hno j hj hj
    rw [this]
    simp [h0, h1, h7, h8]
theorem S_anyF (H : List HO) (f : FuncId) (caps : List AV) (own : Own) (l : List Frm) (q : Frm → Bool) (hl : l.length < 4611686018427387904) (hq : ∀ x, x ∈ l → TS Try.prog f (x.av :: caps) H (pt (.bool (q x)) H)) : TS Try.prog 126 [.sl own (frms l), .fn (.func f) [] caps] H (pt (.bool (l.any q)) H) := by
  refine TS.body mix Try.func126 (by kernel_rfl) rfl (by kernel_rfl) (by simp) ?_
  simp
  refine TS.pt (S_idxF H f caps own l q hl hq) ?_
  have : decide (0 ≤ (match l.findIdx? q with | some i => (i : Int) | none => -1)) = l.any q := by
    cases h : l.findIdx? q with
    | none =>
      rw [List.findIdx?_eq_none_iff] at h
      have : l.any q = false := by rw [List.any_eq_false]; intro x hx; simpa using h x hx
      rw [this]; simp
    | some i =>
      obtain ⟨h1, h2, _⟩ := List.findIdx?_eq_some_iff_getElem.1 h
      rw [List.any_eq_true.2 ⟨_, List.getElem_mem h1, h2⟩]
      simp
  simp [this]
theorem T_table (hts : TsOk ts) (i : Nat) (hi : i < fs.length) (hl : fs.length ≤ 1000000) : T Try.prog 72 [.sl .no (avs Tab.av ts), .sl .no (frms fs), .int .i64 i] (.tup [(if rightF ts fs i = true then foundT ts (fs[i]).tab else noTab).av, .int .i64 (if rightF ts fs i = true then 0 else 2)]) := by
  have hts2 := hts.1
  have f1 := T_find' ts (fs[i]).tab (by omega)
  have e0 : fs.getD i ⟨0, ByteArray.empty, ByteArray.empty, zE⟩ = fs[i] := by simp [hi]
  refine T.introF (TS.body mix Try.func72 (by kernel_rfl) rfl (by kernel_rfl) (by simp) ?_)
  simp [hi]
  refine TS.callW f1 (Dws.self (by simp)) ?_
  simp [hi]
  refine ⟨by omega, TS.pt (S_anyF _ _ [.ptr 0 0, .ptr 1 0] _ (fs.take i) (fun f => decide (aliasF f = aliasF fs[i])) (by simp; omega) fun x _ => S_table1 x i hi _ 0 1 rfl rfl) ?_⟩
  have er : rightF ts fs i = ((findT ts (fs[i]).tab).isSome && !((fs.take i).any fun f => decide (aliasF f = aliasF fs[i]))) := by unfold rightF twiceF; rw [e0]
  rw [er]
  generalize ((fs.take i).any fun f => decide (aliasF f = aliasF fs[i])) = b2
  generalize (findT ts (fs[i]).tab).isSome = b1
  have frzN : ∀ {H : List HO}, Frz H (.tup [.agg [.str ByteArray.empty, .sl .exact [], .sl .exact []], .int .i64 2]) (.tup [noTab.av, .int .i64 2]) := by
    intro H
    refine .tup (.cons (.agg ?_) (.cons (.cl (by simp)) .nil))
    repeat (refine .cons (.cl (by simp [noTab])) ?_)
    exact .nil
  cases b1 <;> cases b2 <;> simp
  all_goals first | exact frzN | exact .tup (.cons (.agg (FrzC.refl fun x hx => Selfs.self (f := Tab.av) (foundT ts (fs[i]).tab) x (by simpa using hx))) (.cons (.cl (by simp)) .nil))
abbrev listF (ts : List Tab) (fs : List Frm) (l : List Ex') : Option (List Ex') := exprFL ts fs (seenF fs fs.length) l
theorem seenF_len (fs : List Frm) (n : Int) : (seenF fs n).length ≤ fs.length + 1 := by
  unfold seenF
  split
  · simp
  · have := seenL_len fs n.toNat
    rw [List.length_append]
    split <;> simp <;> omega
theorem T_list (hts : TsOk ts) (hl : fs.length ≤ 100000) (l : List Ex') (ho : ∀ x, x ∈ l → OkE x) (hn : Ex'.nodesL l ≤ 1000000) : T Try.prog 73 [.sl .no (avs Tab.av ts), .sl .no (frms fs), .sl .no (exprs l)] (.tup [.sl .no (exprs ((listF ts fs l).getD [])), .int .i64 (if (listF ts fs l).isSome = true then 0 else 2)]) := by
  have k0 := T_seen fs fs.length (by omega)
  have hsl := seenF_len fs fs.length
  have hal := Ex'.len_le l
  unfold listF
  generalize seenF fs fs.length = seen at *
  refine T.introF (TS.body mix Try.func73 (by kernel_rfl) rfl (by kernel_rfl) (by simp) ?_)
  simp
  refine TS.callW k0 (Dws.self (by simp)) ?_
  simp
  refine vc_loop (fun i : Nat => l.length - i) (fun i en H => ∃ (M : List Ex') (x : AV), en 0 = .sl .no (avs Tab.av ts) ∧ en 1 = .sl .no (frms fs) ∧ en 8 = x ∧ en 9 = .sl .no (ints' seen) ∧ en 18 = .sl .no (exprs l) ∧ en 19 = .int .i64 l.length ∧ en 20 = .int .i64 i ∧ i ≤ l.length ∧ M.length = i ∧ exprFL ts fs seen (l.take i) = some M ∧ Grow1 9 H x (exprs M)) 0 ?_ ?_
  · refine ⟨[], .sl .nil [], ?_⟩
    simp [exprFL, Grow1]
  rintro i en H ⟨M, x, h0, h1, h8, h9, h18, h19, h20, hi, hM, hx, hg⟩
  by_cases hlt : i < l.length
  · have hxm := List.getElem_mem hlt
    have hnx := Ex'.nodesL_mem hxm
    have hc := T_nexpr hts (fs := fs) (seen := seen) (by omega) l[i] (ho _ hxm) (by omega)
    have ew := wrap_next hlt (by omega)
    have es := exprFL_snoc (ts := ts) (fs := fs) (seen := seen) (l.take i) l[i]
    rw [← take_next hlt, hx] at es
    have en0 := exprFL_none (ts := ts) (fs := fs) (seen := seen) hlt
    simp only [Ex'.av_eq] at hc
    simp [h0, h1, h8, h9, h18, h19, h20, hlt]
    refine TS.callW hc (Dws.self (by simp)) ?_
    cases hy : exprF ts fs seen l[i] with
    | none =>
      rw [en0 hy]
      simp [h0, h1, h8, h9, h18, h19, h20, hlt]
      exact .tup (.cons (Frz.slN (f := Ex'.av) (l := [])) (.cons (.cl (by simp)) .nil))
    | some y =>
      rw [hy] at es
      simp only [Option.map_some] at es
      rcases hg with ⟨ge, rfl⟩ | ⟨t, rfl, ht⟩
      · rw [avs_eq_nil] at ge
        subst ge
        simp [h0, h1, h8, h9, h18, h19, h20, hlt]
        have e1 : exprs [y] = [.agg y.cs] := by simp
        refine ⟨i + 1, by omega, ew, by omega, [y], by simp at hM; simp; omega, es, .inr ⟨H.length + 2, by rw [e1], by rw [e1]; simp⟩⟩
      · have htl := (List.getElem?_eq_some_iff.1 ht).1
        have ht' : ∀ Y : List HO, (H ++ Y)[t]? = some (.spare M.length 9) := fun Y => by rw [List.getElem?_append_left htl]; simpa using ht
        have e1 : exprs (M ++ [y]) = exprs M ++ [.agg y.cs] := by simp [avs]
        simp [h0, h1, h8, h9, h18, h19, h20, hlt, ht']
        refine ⟨⟨by omega, by omega⟩, i + 1, by omega, ew, by omega, M ++ [y], by simp; omega, es, .inr ⟨t, by rw [e1], ?_⟩⟩
        rw [List.getElem?_set_self (by simp; omega), e1]
        simp
  · have hil : i = l.length := by omega
    subst hil
    rw [List.take_length] at hx
    rw [hx]
    obtain ⟨own, rfl⟩ := hg.own
    simp [h0, h1, h8, h9, h18, h19, h20]
    exact .tup (.cons Frz.slN (.cons (.cl (by simp)) .nil))
theorem T_all11 (hts : TsOk ts) (hl : fs.length ≤ 100000) (l : List Ex') (ho : ∀ x, x ∈ l → OkE x) (hn : Ex'.nodesL l ≤ 1000000) : T Try.prog 74 [.sl .no (avs Tab.av ts), .sl .no (frms fs), .sl .no (exprs l)] (.tup [.sl .no (exprs ((listF ts fs l).getD [])), .bool (listF ts fs l).isSome]) := by
  have k0 := T_rseen fs fs.length (by omega)
  have hsl := seenF_len fs fs.length
  have hal := Ex'.len_le l
  unfold listF
  generalize seenF fs fs.length = seen at *
  refine T.introF (TS.bodyM [100005, 1051509] mix Try.func74 (by kernel_rfl) rfl (by kernel_rfl) (by simp) ?_)
  simp
  refine vc_loop (fun i : Nat => l.length - i) (fun i en H => ∃ (M : List Ex') (x : AV), en 0 = .sl .no (avs Tab.av ts) ∧ en 1 = .sl .no (frms fs) ∧ en 8 = x ∧ en 2 = .sl .no (exprs l) ∧ en 9 = .int .i64 i ∧ i ≤ l.length ∧ M.length = i ∧ exprFL ts fs seen (l.take i) = some M ∧ Grow1 9 H x (exprs M)) 0 ?_ ?_
  · refine ⟨[], .sl .nil [], ?_⟩
    simp [exprFL, Grow1]
  rintro i en H ⟨M, x, h0, h1, h8, h2, h9, hi, hM, hx, hg⟩
  by_cases hlt : i < l.length
  · have hxm := List.getElem_mem hlt
    have hnx := Ex'.nodesL_mem hxm
    have hc := T_rexpr hts (fs := fs) (seen := seen) (by omega) l[i] (ho _ hxm) (by omega)
    have ew := wrap_next hlt (by omega)
    have es := exprFL_snoc (ts := ts) (fs := fs) (seen := seen) (l.take i) l[i]
    rw [← take_next hlt, hx] at es
    have en0 := exprFL_none (ts := ts) (fs := fs) (seen := seen) hlt
    simp only [Ex'.av_eq] at hc
    simp [h0, h1, h8, h2, h9, hlt]
    refine TDK.callW k0 (Dws.self (by simp)) ?_
    simp [h0, h1, h8, h2, h9, hlt]
    refine TDK.callW hc (Dws.self (by simp)) ?_
    cases hy : exprF ts fs seen l[i] with
    | none =>
      rw [en0 hy]
      simp [h0, h1, h8, h2, h9, hlt]
      exact .tup (.cons (Frz.slN (f := Ex'.av) (l := [])) (.cons (.cl (by simp)) .nil))
    | some y =>
      rw [hy] at es
      simp only [Option.map_some] at es
      rcases hg with ⟨ge, rfl⟩ | ⟨t, rfl, ht⟩
      · rw [avs_eq_nil] at ge
        subst ge
        simp [h0, h1, h8, h2, h9, hlt]
        have e1 : exprs [y] = [.agg y.cs] := by simp
        refine ⟨i + 1, by omega, ew, by omega, [y], by simp at hM; simp; omega, es, .inr ⟨H.length + 1, by rw [e1], by rw [e1]; simp⟩⟩
      · have htl := (List.getElem?_eq_some_iff.1 ht).1
        have ht' : ∀ Y : List HO, (H ++ Y)[t]? = some (.spare M.length 9) := fun Y => by rw [List.getElem?_append_left htl]; simpa using ht
        have e1 : exprs (M ++ [y]) = exprs M ++ [.agg y.cs] := by simp [avs]
        simp [h0, h1, h8, h2, h9, hlt, ht']
        refine ⟨⟨by omega, by omega⟩, i + 1, by omega, ew, by omega, M ++ [y], by simp; omega, es, .inr ⟨t, by rw [e1], ?_⟩⟩
        rw [List.getElem?_set_self (by simp; omega), e1]
        simp
  · have hil : i = l.length := by omega
    subst hil
    rw [List.take_length] at hx
    rw [hx]
    obtain ⟨own, rfl⟩ := hg.own
    simp [h0, h1, h8, h2, h9]
    exact .tup (.cons Frz.slN (.cons (.cl (by simp)) .nil))
end Go.Proofs.Ytaahlhhpmooliaa.PL
