/- Numbers that two lists share. -/
import Derived.Test.YtjplcdeaedflpaaDoorFGraph
namespace Go.Proofs.YtjplcdeaedflpaaDoor.PL
open Go.Proofs
set_option linter.unusedVariables false
set_option linter.unusedSimpArgs false
theorem T_indexI (l : List Int) (v : Int) (hl : l.length < 4611686018427387904) : ∃ n : Int, T Tryd.prog 22 [.sl .no (ints' l), .int .i64 v] (.int .i64 n) ∧ decide (0 ≤ n) = decide (v ∈ l) ∧ n = match l.findIdx? (fun x => decide (x = v)) with | some i => (i : Int) | none => -1 := by
  refine ⟨match l.findIdx? (fun x => decide (x = v)) with | some i => (i : Int) | none => -1, ?_, ?_, rfl⟩
  · refine T.intro (TS.body mix Tryd.func22 (by kernel_rfl) rfl (by kernel_rfl) (by simp) ?_)
    simp
    refine vc_loop (fun i : Nat => l.length - i) (fun i e H => e 1 = .int .i64 v ∧ e 0 = .sl .no (ints' l) ∧ e 7 = .int .i64 l.length ∧ e 8 = .int .i64 i ∧ i ≤ l.length ∧ (∀ j (h : j < l.length), j < i → ¬ l[j] = v)) 0 ?_ ?_
    · simp
    rintro i e H ⟨h1, h0, h7, h8, hi, hno⟩
    by_cases h : i < l.length
    · simp [h1, h0, h7, h8, h]
      refine condK_of (fun h' => ?_) (fun h' => ?_)
      · simp at h'
        simp
        have : l.findIdx? (fun x => decide (x = v)) = some i := by
          rw [List.findIdx?_eq_some_iff_getElem]
          exact ⟨h, by simp [h'], fun j hj => by simpa using hno j (by omega) hj⟩
        rw [this]
      · simp at h'
        simp [h1, h0, h7, h8]
        refine ⟨i + 1, by omega, wrap_next h (by omega), by omega, fun j hj hji => ?_⟩
        rcases Nat.lt_or_ge j i with h2 | h2
        · exact hno j hj h2
        · have : j = i := by omega
          subst this
          exact fun e => h' e.symm
    · have : i = l.length := by omega
      subst this
      simp [h7, h8]
      have : l.findIdx? (fun x => decide (x = v)) = none := by
        rw [List.findIdx?_eq_none_iff]
        intro x hx
        obtain ⟨j, hj, rfl⟩ := List.getElem_of_mem hx
        simpa using hno j hj hj
      rw [this]
  · cases h : l.findIdx? (fun x => decide (x = v)) with
    | none =>
      rw [List.findIdx?_eq_none_iff] at h
      have : v ∉ l := fun hv => by simpa using h v hv
      simp [this]
    | some i =>
      obtain ⟨h1, h2, _⟩ := List.findIdx?_eq_some_iff_getElem.1 h
      have : v ∈ l := by simp at h2; rw [← h2]; exact List.getElem_mem h1
      simp [this]
theorem T_hasI (l : List Int) (v : Int) (hl : l.length < 4611686018427387904) : T Tryd.prog 38 [.sl .no (ints' l), .int .i64 v] (.bool (decide (v ∈ l))) := by
  obtain ⟨n, h1, h2, _⟩ := T_indexI l v hl
  refine T.intro (TS.body mix Tryd.func38 (by kernel_rfl) rfl (by kernel_rfl) (by simp) ?_)
  simp
  refine TS.callW h1 (Dws.self (by simp)) ?_
  simp
  simpa using h2
/-- the first one for which it is so, of a row -/
theorem S_indexMv (H : List HO) (r n : Nat) (f : FuncId) (caps : List AV) (l : List Int) (q : Int → Bool) (hn : l.length = n) (hr : H[r]? = some (.row n 1 (ints' l))) (hl : n < 4611686018427387904) (hq : ∀ x, x ∈ l → TS Tryd.prog f (.int .i64 x :: caps) H (pt (.bool (q x)) H)) : TS Tryd.prog 49 [.mv r n 1 0 n, .fn (.func f) [] caps] H (pt (.int .i64 (match l.findIdx? q with | some i => (i : Int) | none => -1)) H) := by
  subst hn
  refine TS.body mix Tryd.func49 (by kernel_rfl) rfl (by kernel_rfl) (by simp) ?_
  simp
  refine vc_loop (fun i : Nat => l.length - i) (fun i e H' => e 0 = .mv r l.length 1 0 l.length ∧ e 1 = .fn (.func f) [] caps ∧ e 7 = .int .i64 l.length ∧ e 8 = .int .i64 i ∧ i ≤ l.length ∧ (∀ j (h : j < l.length), j < i → q l[j] = false) ∧ H' = H) 0 ?_ ?_
  · simp
  rintro i e H' ⟨h0, h1, h7, h8, hi, hno, rfl⟩
  by_cases hlt : i < l.length
  · have ew := wrap_next hlt (by omega)
    have hqi := hq l[i] (List.getElem_mem hlt)
    simp [h0, h1, h7, h8, hlt, hr]
    refine TS.pt hqi ?_
    simp [h0, h1, h7, h8, hlt]
    refine condK_of (fun c => ?_) (fun c => ?_)
    · have : l.findIdx? q = some i := by
        rw [List.findIdx?_eq_some_iff_getElem]
        exact ⟨hlt, c, fun j hj => by rw [hno j (by omega) hj]; simp⟩
      rw [this]
      simp
    · simp [h0, h1, h7, h8, hlt]
      refine ⟨i + 1, by omega, ew, by omega, fun j h hj => ?_⟩
      rcases Nat.lt_or_ge j i with h2 | h2
      · exact hno j h h2
      · have : j = i := by omega
        subst this; exact c
  · have : i = l.length := by omega
    subst this
    have : l.findIdx? q = none := by
      rw [List.findIdx?_eq_none_iff]
      intro x hx
      obtain ⟨j, hj, rfl⟩ := List.getElem_of_mem hx
      exact hno j hj hj
    rw [this]
    simp [h0, h1, h7, h8]
def keepI (q : Int → Bool) (l : List Int) : List Int := l.filter fun x => !q x
theorem keepI_none {q : Int → Bool} {l : List Int} (h : ∀ j (h : j < l.length), q l[j] = false) : keepI q l = l := by
  unfold keepI
  rw [List.filter_eq_self]
  intro x hx
  obtain ⟨j, hj, rfl⟩ := List.getElem_of_mem hx
  simp [h j hj]
theorem keepI_le {q : Int → Bool} {l : List Int} (i : Nat) : (keepI q (l.take i)).length ≤ i := by
  have := List.length_filter_le (fun x => !q x) (l.take i)
  unfold keepI
  rw [List.length_take] at this
  omega
theorem keepI_next {q : Int → Bool} {l : List Int} {i : Nat} (h : i < l.length) : keepI q (l.take (i + 1)) = keepI q (l.take i) ++ if q l[i] = true then [] else [l[i]] := by
  unfold keepI
  rw [take_next h, List.filter_append]
  by_cases hq : q l[i] = true <;> simp [hq]
/-- those for which it is so are taken out of a row -/
theorem S_delMv (H : List HO) (r n : Nat) (f : FuncId) (caps : List AV) (l : List Int) (q : Int → Bool) (hn : l.length = n) (hr : H[r]? = some (.row n 1 (ints' l))) (hl : n < 4611686018427387904) (hq : ∀ cs x, x ∈ l → TS Tryd.prog f (.int .i64 x :: caps) (H.set r (.row n 1 cs)) (pt (.bool (q x)) (H.set r (.row n 1 cs)))) : TS Tryd.prog 35 [.mv r n 1 0 n, .fn (.func f) [] caps] H (fun x H' => ∃ cs, x = .mv r n 1 0 (keepI q l).length ∧ H' = H.set r (.row n 1 cs) ∧ cs.length = n ∧ cs.take (keepI q l).length = ints' (keepI q l)) := by
  subst hn
  have hrl := (List.getElem?_eq_some_iff.1 hr).1
  have hset : H.set r (.row l.length 1 (ints' l)) = H := set_self' hr
  have hix := S_indexMv H r l.length f caps l q rfl hr hl (fun x hx => by have := hq (ints' l) x hx; rwa [hset] at this)
  refine TS.body mix Tryd.func35 (by kernel_rfl) rfl (by kernel_rfl) (by simp) ?_
  simp
  refine TS.pt hix ?_
  cases hf : l.findIdx? q with
  | none =>
    rw [List.findIdx?_eq_none_iff] at hf
    have hk : keepI q l = l := keepI_none fun j hj => hf _ (List.getElem_mem hj)
    simp
    refine ⟨by rw [hk], ints' l, hset.symm, by simp, ?_⟩
    rw [hk]
    simp
  | some j0 =>
    obtain ⟨g1, g2, g3⟩ := List.findIdx?_eq_some_iff_getElem.1 hf
    have ew0 : IntKind.i64.wrap ((j0 : Int) + 1) = ((j0 + 1 : Nat) : Int) := wrap_next g1 (by omega)
    have hk0 : keepI q (l.take (j0 + 1)) = l.take j0 := by
      rw [keepI_next g1, if_pos g2, List.append_nil]
      exact keepI_none fun j hj => by
        rw [List.length_take] at hj
        rw [List.getElem_take]
        simpa using g3 j (by omega)
    have hneg : ¬ ((j0 : Int) = -1) := by omega
    simp [hneg]
    refine vc_loop (fun i : Nat => l.length - i) (fun i e H' => ∃ D R : List Int, e 0 = .mv r l.length 1 0 l.length ∧ e 1 = .fn (.func f) [] caps ∧ e 5 = .int .i64 D.length ∧ e 6 = .int .i64 i ∧ i ≤ l.length ∧ D.length < i ∧ D = keepI q (l.take i) ∧ R = D ++ l.drop D.length ∧ H' = H.set r (.row l.length 1 (ints' R))) (j0 + 1) ?_ ?_
    · have hlt0 : (l.take j0).length = j0 := by rw [List.length_take]; omega
      refine ⟨l.take j0, l, ?_⟩
      simp [hk0, hlt0, ew0]
      exact ⟨by omega, hset.symm⟩
    rintro i e H' ⟨D, R, h0, h1, h5, h6, hi, hki, hD, hR, rfl⟩
    have hRl : R.length = l.length := by rw [hR, List.length_append, List.length_drop]; omega
    by_cases hlt : i < l.length
    · have ew := wrap_next hlt (by omega)
      have hqi := hq (ints' R) l[i] (List.getElem_mem hlt)
      have hnx := keepI_next (q := q) hlt
      rw [← hD] at hnx
      have hil : i < R.length := by omega
      have hRi : R[i] = l[i] := by
        subst hR
        rw [List.getElem_append_right (by omega), List.getElem_drop]
        congr 1
        omega
      have ewD : IntKind.i64.wrap ((D.length : Int) + 1) = ((D.length + 1 : Nat) : Int) := wrap_next hki (by omega)
      simp [h0, h1, h5, h6, hlt, hrl, hil, hRi, hRl]
      refine TS.pt hqi ?_
      cases hqv : q l[i] with
      | true =>
        rw [hqv, if_pos rfl, List.append_nil] at hnx
        simp [h0, h1, h5, h6, hlt, hrl, hil, hRi, hRl]
        exact ⟨i + 1, by omega, D, rfl, ew, by omega, by omega, hnx.symm, by rw [hR]⟩
      | false =>
        rw [hqv] at hnx
        simp at hnx
        simp [h0, h1, h5, h6, hlt, hrl, hil, hRi, hRl]
        have e1 : R.take D.length = D := by rw [hR, List.take_left']; rfl
        have e2 : R.drop (D.length + 1) = l.drop (D.length + 1) := by rw [hR, ← List.drop_drop, List.drop_left, List.drop_drop]
        refine ⟨by omega, by omega, i + 1, by omega, D ++ [l[i]], by simpa using ewD, ew, by omega, by simp; omega, hnx.symm, ?_⟩
        rw [e1, e2]
        simp
    · have hil : i = l.length := by omega
      subst hil
      rw [List.take_length] at hD
      simp [h0, h1, h5, h6, hrl, hRl]
      have e1 : R.take D.length = D := by rw [hR, List.take_left']; rfl
      have e3 : (repeatA [AV.int .i64 0] (l.length - D.length)).length = l.length - D.length := by rw [repeatA_len]; simp
      refine ⟨by omega, by rw [hD], _, rfl, ?_, ?_⟩
      · simp [e1, e3, hRl]
        omega
      · rw [e1, ← hD, List.take_left']
        simp
theorem S_shared1 (H : List HO) (k : Nat) (b : List Int) (v : Int) (hk : H[k]? = some (.box [.sl .no (ints' b)])) (hb : b.length < 4611686018427387904) : TS Tryd.prog 37 [.int .i64 v, .ptr k 0] H (pt (.bool (!decide (v ∈ b))) H) := by
  have hkl := (List.getElem?_eq_some_iff.1 hk).1
  have k1 := T_hasI b v hb
  refine TS.body mix Tryd.func37 (by kernel_rfl) rfl (by kernel_rfl) (by simp) ?_
  simp [hk]
  refine TS.callW k1 (Dws.self (by simp)) ?_
  simp

def withinI (a b : List Int) : Bool := !(a.any fun v => !decide (v ∈ b))
def sharedI (a b : List Int) : List Int := (setI a).filter fun v => decide (v ∈ b)
theorem sharedI_keep (a b : List Int) : sharedI a b = keepI (fun v => !decide (v ∈ b)) (setI a) := by simp [sharedI, keepI]
theorem rises_filter {q : Int → Bool} {l : List Int} (h : Rises l) : Rises (l.filter q) := List.Pairwise.sublist List.filter_sublist h
theorem sharedI_comm (a b : List Int) : sharedI a b = sharedI b a := by
  refine rises_eq (rises_filter (setI_rises a)) (rises_filter (setI_rises b)) fun x => ?_
  simp [sharedI, List.mem_filter, setI_mem]
  exact And.comm
theorem setI_len (l : List Int) : (setI l).length ≤ l.length := by
  refine nodup_le ?_ fun x hx => setI_mem.1 hx
  exact (setI_rises l).imp fun h => by omega
theorem T_set (l : List Int) (hl : l.length ≤ 1000000) : T Tryd.prog 36 [.sl .no (ints' l)] (.sl .no (ints' (setI l))) := by
  refine T.introF ((S_set [] l hl).mono ?_)
  rintro r H' ⟨es, c, it, ⟨h1, rfl, rfl⟩ | ⟨h1, rfl, rfl⟩⟩
  · rw [h1]
    exact Frz.slN (f := AV.int .i64) (l := [])
  · exact Frz.mvA (f := AV.int .i64) (sz := 1) (l := setI l) (by simp) rfl

theorem S_indexNil (H : List HO) (g : AV) : TS Tryd.prog 49 [.sl .nil [], g] H (pt (.int .i64 (-1)) H) := by
  refine TS.body mix Tryd.func49 (by kernel_rfl) rfl (by kernel_rfl) (by simp) ?_
  simp
  refine vc_loop (fun i : Nat => 0) (fun i e H' => e 7 = .int .i64 0 ∧ e 8 = .int .i64 0 ∧ H' = H) 0 ?_ ?_
  · simp
  rintro i e H' ⟨h7, h8, rfl⟩
  simp [h7, h8]
theorem S_delNil (H : List HO) (g : AV) : TS Tryd.prog 35 [.sl .nil [], g] H (pt (.sl .nil []) H) := by
  refine TS.body mix Tryd.func35 (by kernel_rfl) rfl (by kernel_rfl) (by simp) ?_
  simp
  refine TS.pt (S_indexNil H g) ?_
  simp
theorem T_shared (a b : List Int) (ha : a.length ≤ 1000000) (hb : b.length < 4611686018427387904) : T Tryd.prog 17 [.sl .no (ints' a), .sl .no (ints' b)] (.sl .no (ints' (sharedI a b))) := by
  refine T.introF (TS.body mix Tryd.func17 (by kernel_rfl) rfl (by kernel_rfl) (by simp) ?_)
  simp
  refine (S_set [.box [.sl .no (ints' b)]] a ha).mono ?_
  rintro r H' ⟨es, c, it, ⟨h1, rfl, rfl⟩ | ⟨h1, rfl, rfl⟩⟩
  · have : sharedI a b = [] := by unfold sharedI; rw [h1]; rfl
    rw [this]
    simp
    refine TS.pt (S_delNil _ _) ?_
    simp
    exact Frz.slN (f := AV.int .i64) (l := [])
  · have hsl := setI_len a
    simp
    refine (S_delMv _ 3 (setI a).length 37 [.ptr 0 0] (setI a) (fun v => !decide (v ∈ b)) rfl rfl (by omega) fun cs x _ => S_shared1 _ 0 b x rfl hb).mono ?_
    rintro x H' ⟨cs, rfl, rfl, h2, h3⟩
    rw [sharedI_keep]
    simp
    refine .mv rfl ?_ (by simp) (fun y hy => by obtain ⟨a, ha, rfl⟩ := mem_avs.1 hy; rfl)
    rw [Nat.zero_mul, List.drop_zero, Nat.mul_one, h3]
    have hfl : ∀ l : List Int, (ints' l).flatMap AV.cells = ints' l := fun l => by induction l with | nil => rfl | cons a l ih => simp
    rw [hfl]
    have := FrzC.refl (H := [.box [.sl .no (ints' b)], .mp es c, it, .row (setI a).length 1 cs]) (Selfs.flat (f := AV.int .i64) (l := keepI (fun v => !decide (v ∈ b)) (setI a)))
    rwa [hfl] at this
end Go.Proofs.YtjplcdeaedflpaaDoor.PL
