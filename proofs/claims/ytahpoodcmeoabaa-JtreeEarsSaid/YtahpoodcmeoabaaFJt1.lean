/- Trees by their parents: the way up. -/
import Derived.Test.YtahpoodcmeoabaaFGyo6
namespace Go.Proofs.Ytahpoodcmeoabaa.PL
open Go.Proofs
set_option linter.unusedVariables false
set_option linter.unusedSimpArgs false
/-- the nodes that are handed on, till one is told to be the last -/
def climbF (ps : List Int) (go : Int → Bool) : Nat → Int → List Int
  | 0, _ => []
  | m + 1, i => if 0 ≤ i ∧ i < ps.length then i :: (if go i = true then climbF ps go m (ps.getD i.toNat 0) else []) else []
theorem climb_all {ps : List Int} : ∀ (m : Nat) (i : Int), climbF ps (fun _ => true) m i = upF ps m i
  | 0, i => rfl
  | m + 1, i => by rw [climbF, upF, if_pos rfl, climb_all m]
def isEnd (ps : List Int) (x : Int) : Bool := decide (ps.getD x.toNat 0 = -1)
theorem climb_end {ps : List Int} : ∀ (m : Nat) (i : Int), climbF ps (fun x => !isEnd ps x) m i = upF ps m i
  | 0, i => rfl
  | m + 1, i => by
    rw [climbF, upF, climb_end m]
    cases h : isEnd ps i with
    | false => simp
    | true =>
      have h1 : ps.getD i.toNat 0 = -1 := by unfold isEnd at h; simpa using h
      rw [h1]
      have : upF ps m (-1) = [] := by cases m with | zero => rfl | succ m => rw [upF, if_neg (by omega)]
      rw [this]
      simp
theorem S_climb (ps : List Int) (i : Int) (f : FuncId) (caps : List AV) (go : Int → Bool) (Inv : List Int → List HO → Prop) (H : List HO) (h0 : Inv [] H) (hl : ps.length ≤ 1000000)
    (hf : ∀ (A : List Int) (x : Nat) (H : List HO), x < ps.length → A.length < ps.length → Inv A H → TS Try.prog f (.int .i64 (x : Int) :: caps) H (fun r H' => r = .bool (go x) ∧ Inv (A ++ [(x : Int)]) H')) :
    TS Try.prog 90 [.sl .no (ints' ps), .int .i64 i, .fn (.func f) [] caps] H (fun r H' => r = .tup [] ∧ Inv (climbF ps go ps.length i) H') := by
  refine TS.body mix Try.func90 (by kernel_rfl) rfl (by kernel_rfl) (by simp) ?_
  simp
  refine vc_loop (fun n : Nat => ps.length - n) (fun n e H => ∃ (A : List Int) (c : Int), e 0 = .sl .no (ints' ps) ∧ e 1 = .int .i64 c ∧ e 2 = .fn (.func f) [] caps ∧ e 7 = .int .i64 ps.length ∧ e 8 = .int .i64 n ∧ n ≤ ps.length ∧ A.length = n ∧ Inv A H ∧ climbF ps go ps.length i = A ++ climbF ps go (ps.length - n) c) 0 ?_ ?_
  · exact ⟨[], i, by simp, by simp, by simp, by simp, by simp, Nat.zero_le _, rfl, h0, by simp⟩
  rintro n e H ⟨A, c, e0, e1, e2, e7, e8, hn, hA, hI, hu⟩
  by_cases hlt : n < ps.length
  · have ew := wrap_next hlt (by omega)
    obtain ⟨m, hm⟩ : ∃ m, ps.length - n = m + 1 := ⟨ps.length - n - 1, by omega⟩
    have hm2 : ps.length - (n + 1) = m := by omega
    by_cases hc : 0 ≤ c ∧ c < ps.length
    · obtain ⟨k, rfl⟩ : ∃ k : Nat, c = k := ⟨c.toNat, by omega⟩
      have hk : k < ps.length := by omega
      have hk0 : ¬ (k : Int) < 0 := by omega
      have hk1 : ¬ ps.length ≤ k := by omega
      rw [hm, climbF, if_pos hc] at hu
      have hgk : ps.getD (k : Int).toNat 0 = ps[k] := by simp [hk]
      rw [hgk] at hu
      have kf := hf A k H hk (by omega) hI
      simp [e0, e1, e2, e7, e8, hlt, hk0, hk1]
      refine GTK.yes (kf.mono ?_)
      rintro _ H' ⟨rfl, hI'⟩
      cases hg : go (k : Int) with
      | true =>
        rw [hg, if_pos rfl] at hu
        simp [e0, e1, e2, e7, e8, hlt, hk]
        exact ⟨n + 1, by omega, ew, by omega, A ++ [(k : Int)], by simp [hA], hI', by rw [hu, hm2]; simp⟩
      | false =>
        rw [hg] at hu
        simp at hu
        simp [e0, e1, e2, e7, e8, hlt, hk]
        rw [hu]
        exact hI'
    · rw [hm, climbF, if_neg hc, List.append_nil] at hu
      rw [hu]
      by_cases h1 : c < 0
      · simp [e0, e1, e2, e7, e8, hlt, h1]
        refine GTK.no ?_
        simp [e0, e1, e2, e7, e8, hlt, h1]
        exact hI
      · have h2 : (ps.length : Int) ≤ c := by omega
        simp [e0, e1, e2, e7, e8, hlt, h1, h2]
        refine GTK.no ?_
        simp [e0, e1, e2, e7, e8, hlt, h1, h2]
        exact hI
  · have : n = ps.length := by omega
    rw [this, Nat.sub_self, climbF, List.append_nil] at hu
    rw [hu]
    simp [e0, e1, e2, e7, e8, hlt]
    exact hI
/-- a list grown from nil on, by things or lists, behind k things -/
def GrowZ (k sz : Nat) (J : List HO) (x : AV) (xs : List AV) : Prop := (xs = [] ∧ (x = .sl .nil [] ∨ x = .sl .exact [])) ∨ ∃ t, x = .sl (.tok (t + k)) xs ∧ J[t]? = some (.spare xs.length sz)
theorem T_up (ps : List Int) (i : Int) (hl : ps.length ≤ 1000000) : T Try.prog 98 [.sl .no (ints' ps), .int .i64 i] (.sl .no (ints' (upI ps i))) := by
  have kc := S_climb ps i 152 [.ptr 0 0] (fun _ => true) (fun A H => ∃ x J, H = .box [x] :: J ∧ GrowZ 1 1 J x (ints' A)) [.box [.sl .exact []]] ⟨_, [], rfl, .inl ⟨rfl, .inr rfl⟩⟩ hl (by
    rintro A x _ hx hA ⟨s, J, rfl, hg⟩
    refine TS.body mix Try.func152 (by kernel_rfl) rfl (by kernel_rfl) (by simp) ?_
    rcases hg with ⟨ge, hg⟩ | ⟨t, rfl, ht⟩
    · rw [avs_eq_nil] at ge
      subst ge
      have hex : s.ex = .sl .exact [] := by rcases hg with rfl | rfl <;> rfl
      rcases hg with rfl | rfl
      · simp
        exact ⟨_, _, ⟨rfl, rfl⟩, .inr ⟨J.length, rfl, by simp⟩⟩
      · simp
        exact ⟨_, _, ⟨rfl, rfl⟩, .inr ⟨J.length, rfl, by simp⟩⟩
    · simp [ht]
      refine ⟨⟨by omega, by omega⟩, _, _, ⟨rfl, rfl⟩, .inr ⟨t, rfl, ?_⟩⟩
      rw [List.getElem?_set_self (List.getElem?_eq_some_iff.1 ht).1]
      simp)
  rw [climb_all] at kc
  refine T.introF (TS.body mix Try.func98 (by kernel_rfl) rfl (by kernel_rfl) (by simp) ?_)
  simp
  refine TS.mono kc ?_
  rintro _ _ ⟨rfl, s, J, rfl, hg⟩
  have hu : upF ps ps.length i = upI ps i := rfl
  rw [hu] at hg
  generalize upI ps i = U at *
  rcases hg with ⟨ge, hg⟩ | ⟨t, rfl, ht⟩
  · rw [avs_eq_nil] at ge
    subst ge
    rcases hg with rfl | rfl <;> simp <;> exact Frz.slN (f := AV.int .i64) (l := [])
  · simp
    exact Frz.slN
/-- does the last one that was met end a way? -/
def endF (ps A : List Int) : Bool := match A.getLast? with | none => false | some x => isEnd ps x
theorem S_right1 (ps : List Int) (k : Nat) (x : Nat) (b : Bool) (H : List HO) (hx : x < ps.length) (h0 : H[0]? = some (.box [.sl .no (ints' ps)])) (hk : H[k]? = some (.box [.bool b])) :
    TS Try.prog 91 [.int .i64 (x : Int), .ptr 0 0, .ptr k 0] H (pt (.bool (!isEnd ps x)) (H.set k (.box [.bool (isEnd ps x)]))) := by
  have hkl := (List.getElem?_eq_some_iff.1 hk).1
  refine TS.body mix Try.func91 (by kernel_rfl) rfl (by kernel_rfl) (by simp) ?_
  have hk2 : H[k] = .box [.bool b] := by rw [List.getElem?_eq_getElem hkl] at hk; exact Option.some.inj hk
  simp [h0, hx, hkl, hk2]
  unfold isEnd
  simp [hx]
set_option maxRecDepth 4000 in
theorem T_jright (ps : List Int) (hl : ps.length ≤ 1000000) : T Try.prog 16 [.sl .no (ints' ps)] (.bool (treeI ps)) := by
  refine T.intro (TS.body mix Try.func16 (by kernel_rfl) rfl (by kernel_rfl) (by simp) ?_)
  simp
  refine vc_loop (fun i : Nat => ps.length - i) (fun i e H => ∃ J, e 1 = .ptr 0 0 ∧ e 7 = .sl .no (ints' ps) ∧ e 8 = .int .i64 ps.length ∧ e 3 = .int .i64 ((ps.take i).count (-1) : Nat) ∧ e 9 = .int .i64 i ∧ i ≤ ps.length ∧ (∀ j, j < i → endOk ps j = true) ∧ H = .box [.sl .no (ints' ps)] :: J) 0 ?_ ?_
  · refine ⟨[], ?_⟩
    simp
  rintro i e H ⟨J, e1, e7, e8, e3, e9, hi, hno, rfl⟩
  by_cases hlt : i < ps.length
  · have ew := wrap_next hlt (by omega)
    have hcn := count_next hlt (-1)
    have hcl : (ps.take i).count (-1) ≤ i := Nat.le_trans List.count_le_length (by simp; omega)
    have ew2 : IntKind.i64.wrap (((ps.take i).count (-1) : Nat) + 1 : Int) = (((ps.take i).count (-1) + 1 : Nat) : Int) := by rw [wrap_i64 (by omega) (by omega)]; omega
    have hne := upI_ne hlt
    have kc := S_climb ps i 91 [.ptr 0 0, .ptr (J.length + 1) 0] (fun x => !isEnd ps x) (fun A H => H = .box [.sl .no (ints' ps)] :: (J ++ [.box [.bool (endF ps A)]])) (.box [.sl .no (ints' ps)] :: (J ++ [.box [.bool false]])) rfl hl (by
      rintro A x _ hx hA rfl
      refine TS.pt (S_right1 ps (J.length + 1) x (endF ps A) _ hx rfl (by simp)) ⟨rfl, ?_⟩
      simp [endF])
    rw [climb_end] at kc
    have hu : upF ps ps.length i = upI ps i := rfl
    rw [hu] at kc
    have hq : endF ps (upI ps i) = endOk ps i := by
      unfold endF endOk
      rw [List.getLast?_eq_some_getLast hne]
      simp [isEnd]
    rw [hq] at kc
    have fin : ∀ j, endOk ps i = true → j < i + 1 → endOk ps j = true := by
      intro j h hj
      rcases Nat.lt_or_ge j i with h2 | h2
      · exact hno j h2
      · have : j = i := by omega
        subst this; exact h
    by_cases c2 : ps[i] = -1
    · rw [if_pos c2] at hcn
      simp [e1, e7, e8, e3, e9, hlt, c2]
      refine TS.mono kc ?_
      rintro _ _ ⟨rfl, rfl⟩
      cases hb : endOk ps i with
      | true =>
        simp [e1, e7, e8, e3, e9, hlt, c2]
        exact ⟨i + 1, by omega, by rw [hcn]; exact ew2, ew, by omega, fun j hj => fin j hb hj⟩
      | false =>
        have : treeI ps = false := by
          unfold treeI
          rw [all_range_no hlt hb, Bool.false_and]
        rw [this]
        simp [e1, e7, e8, e3, e9, hlt, c2]
    · rw [if_neg c2] at hcn
      simp [e1, e7, e8, e3, e9, hlt, c2]
      refine TS.mono kc ?_
      rintro _ _ ⟨rfl, rfl⟩
      cases hb : endOk ps i with
      | true =>
        simp [e1, e7, e8, e3, e9, hlt, c2]
        exact ⟨i + 1, by omega, by rw [hcn]; rfl, ew, by omega, fun j hj => fin j hb hj⟩
      | false =>
        have : treeI ps = false := by
          unfold treeI
          rw [all_range_no hlt hb, Bool.false_and]
        rw [this]
        simp [e1, e7, e8, e3, e9, hlt, c2]
  · have : i = ps.length := by omega
    subst this
    rw [List.take_length] at e3
    have : treeI ps = (decide (ps.length = 0) || decide (ps.count (-1) = 1)) := by
      unfold treeI
      rw [all_range hno, Bool.true_and]
    rw [this]
    by_cases c0 : ps.length = 0
    · have := List.eq_nil_of_length_eq_zero c0
      subst this
      simp at e7 e8 e3 e9
      simp [e1, e7, e8, e3, e9]
    · have c1 : ¬ (ps.length : Int) = 0 := by omega
      have c2 : ¬ ps = [] := fun h => c0 (by rw [h]; rfl)
      simp [e1, e7, e8, e3, e9, c1, c2]
      try omega
def heldI (ps : List Int) : List Int := if treeI ps = true then ps else []
theorem heldI_len (ps : List Int) : (heldI ps).length ≤ ps.length := by unfold heldI; split <;> simp
theorem T_held (ps : List Int) (hl : ps.length ≤ 1000000) : T Try.prog 94 [.sl .no (ints' ps)] (.sl .no (ints' (heldI ps))) := by
  have k := T_jright ps hl
  refine T.intro (TS.body mix Try.func94 (by kernel_rfl) rfl (by kernel_rfl) (by simp) ?_)
  simp
  refine TS.callW k (Dws.self (by simp)) ?_
  unfold heldI
  cases treeI ps <;> simp
theorem T_jrheld (ps : List Int) (hl : ps.length ≤ 1000000) : T Try.prog 95 [.sl .no (ints' ps)] (.sl .no (ints' (heldI ps))) := by
  have k := T_rtree ps hl
  refine T.intro (TS.body mix Try.func95 (by kernel_rfl) rfl (by kernel_rfl) (by simp) ?_)
  simp
  refine TS.callW k (Dws.self (by simp)) ?_
  unfold heldI
  cases treeI ps <;> simp
end Go.Proofs.Ytahpoodcmeoabaa.PL
