/- What hypergraphs tell. -/
import Derived.Test.YtahpoodcmeoabaaFConc
namespace Go.Proofs.Ytahpoodcmeoabaa.PL
open Go.Proofs
set_option linter.unusedVariables false
set_option linter.unusedSimpArgs false
theorem T_vertices (h : List (List Int)) (hn : h.length ≤ 1000) (hs : ∀ l, l ∈ h → l.length ≤ 1000) : T Try.prog 44 [.sl .no (lists' h)] (.sl .no (ints' (setI (catI h)))) := by
  have hcl := catI_le hs
  have k1 := T_concatI h hn hs
  have k2 := T_set (catI h) (by omega)
  refine T.intro (TS.body mix Try.func44 (by kernel_rfl) rfl (by kernel_rfl) (by simp) ?_)
  simp
  refine TS.callW k1 (Dws.self (by simp)) ?_
  simp
  refine TS.callW k2 (Dws.self (by simp)) ?_
  simp
def degI (h : List (List Int)) (v : Int) : Nat := (h.filter fun l => decide (v ∈ l)).length
theorem degI_next {h : List (List Int)} {v : Int} {i : Nat} (hi : i < h.length) : degI (h.take (i + 1)) v = degI (h.take i) v + if v ∈ h[i] then 1 else 0 := by
  unfold degI
  rw [take_next hi, List.filter_append, List.length_append]
  by_cases hv : v ∈ h[i] <;> simp [hv]
theorem degI_le (h : List (List Int)) (v : Int) : degI h v ≤ h.length := List.length_filter_le _ _
theorem T_degree (h : List (List Int)) (v : Int) (hn : h.length ≤ 1000) (hs : ∀ l, l ∈ h → l.length ≤ 1000) : T Try.prog 45 [.sl .no (lists' h), .int .i64 v] (.int .i64 (degI h v)) := by
  refine T.intro (TS.body mix Try.func45 (by kernel_rfl) rfl (by kernel_rfl) (by simp) ?_)
  simp
  refine vc_loop (fun i : Nat => h.length - i) (fun i e H => e 1 = .int .i64 v ∧ e 5 = .int .i64 (degI (h.take i) v) ∧ e 8 = .sl .no (lists' h) ∧ e 9 = .int .i64 h.length ∧ e 10 = .int .i64 i ∧ i ≤ h.length) 0 ?_ ?_
  · simp [degI]
  rintro i e H ⟨e1, e5, e8, e9, e10, hi⟩
  have hd := degI_le (h.take i) v
  rw [List.length_take] at hd
  by_cases hlt : i < h.length
  · have ew := wrap_next hlt (by omega)
    have hli := hs _ (List.getElem_mem hlt)
    have k1 := T_hasI h[i] v (by omega)
    have hnx := degI_next (v := v) hlt
    simp [e1, e5, e8, e9, e10, hlt]
    refine TS.callW k1 (Dws.self (by simp)) ?_
    by_cases hv : v ∈ h[i]
    · rw [if_pos hv] at hnx
      have ec : IntKind.i64.wrap ((degI (h.take i) v : Int) + 1) = ((degI (h.take (i + 1)) v : Nat) : Int) := by rw [wrap_i64 (by omega) (by omega), hnx]; simp
      simp [e1, e5, e8, e9, e10, hlt, hv, ec]
      exact ⟨i + 1, by omega, rfl, ew, by omega⟩
    · rw [if_neg hv] at hnx
      simp [e1, e5, e8, e9, e10, hlt, hv]
      exact ⟨i + 1, by omega, by rw [hnx]; rfl, ew, by omega⟩
  · have : i = h.length := by omega
    subst this
    rw [List.take_length] at e5
    simp [e1, e5, e8, e9, e10]
theorem T_equalI (a b : List Int) (ha : a.length < 4611686018427387904) : T Try.prog 113 [.sl .no (ints' a), .sl .no (ints' b)] (.bool (decide (a = b))) := by
  refine T.intro (TS.body mix Try.func113 (by kernel_rfl) rfl (by kernel_rfl) (by simp) ?_)
  simp
  by_cases hl : a.length = b.length
  · simp [hl]
    refine vc_loop (fun i : Nat => a.length - i) (fun i e H => e 0 = .sl .no (ints' a) ∧ e 1 = .sl .no (ints' b) ∧ e 12 = .int .i64 a.length ∧ e 13 = .int .i64 i ∧ i ≤ a.length ∧ (∀ j (h1 : j < a.length) (h2 : j < b.length), j < i → a[j] = b[j])) 0 ?_ ?_
    · simp [hl]
    rintro i e H ⟨h0, h1, h12, h13, hi, hno⟩
    by_cases h : i < a.length
    · have hb : i < b.length := by omega
      by_cases he : a[i] = b[i]
      · simp [h0, h1, h12, h13, h, hb, he]
        refine ⟨i + 1, by omega, wrap_next h (by omega), by omega, fun j h1 h2 hj => ?_⟩
        rcases Nat.lt_or_ge j i with h3 | h3
        · exact hno j h1 h2 h3
        · have : j = i := by omega
          subst this; exact he
      · have : ¬ a = b := by rintro rfl; exact he rfl
        simp [h0, h1, h12, h13, h, hb, he, this]
    · have : a = b := List.ext_getElem hl fun j h1 h2 => hno j h1 h2 (by omega)
      subst this
      have hn : ¬ i < a.length := h
      simp [h0, h1, h12, h13, hn]
  · have : ¬ a = b := fun e => hl (by rw [e])
    have hl2 : ¬ (a.length : Int) = b.length := by omega
    simp [hl2, this]
def rightG (h : List (List Int)) : Bool := h.all fun l => decide (setI l = l)
theorem rightG_next {h : List (List Int)} {i : Nat} (hi : i < h.length) : rightG (h.take (i + 1)) = (rightG (h.take i) && decide (setI h[i] = h[i])) := by
  unfold rightG
  rw [take_next hi, List.all_append]
  simp
theorem rightG_no {h : List (List Int)} {i : Nat} (hi : i < h.length) (hn : ¬ setI h[i] = h[i]) : rightG h = false := by
  unfold rightG
  rw [List.all_eq_false]
  exact ⟨_, List.getElem_mem hi, by simpa using hn⟩
theorem T_gright (h : List (List Int)) (hn : h.length ≤ 1000) (hs : ∀ l, l ∈ h → l.length ≤ 1000) : T Try.prog 43 [.sl .no (lists' h)] (.bool (rightG h)) := by
  refine T.intro (TS.body mix Try.func43 (by kernel_rfl) rfl (by kernel_rfl) (by simp) ?_)
  simp
  refine vc_loop (fun i : Nat => h.length - i) (fun i e H => e 5 = .sl .no (lists' h) ∧ e 6 = .int .i64 h.length ∧ e 7 = .int .i64 i ∧ i ≤ h.length ∧ rightG (h.take i) = true) 0 ?_ ?_
  · simp [rightG]
  rintro i e H ⟨e5, e6, e7, hi, hr⟩
  by_cases hlt : i < h.length
  · have ew := wrap_next hlt (by omega)
    have hli := hs _ (List.getElem_mem hlt)
    have k1 := T_set h[i] (by omega)
    have k2 := T_equalI h[i] (setI h[i]) (by omega)
    have hnx := rightG_next hlt
    simp [e5, e6, e7, hlt]
    refine TS.callW k1 (Dws.self (by simp)) ?_
    simp [e5, e6, e7, hlt]
    refine TS.callW k2 (Dws.self (by simp)) ?_
    by_cases he : setI h[i] = h[i]
    · have he' : h[i] = setI h[i] := he.symm
      rw [hr] at hnx
      simp [he] at hnx
      rw [he]
      simp [e5, e6, e7, hlt]
      exact ⟨i + 1, by omega, ew, by omega, hnx⟩
    · have he' : ¬ h[i] = setI h[i] := fun e => he e.symm
      rw [rightG_no hlt he]
      simp [e5, e6, e7, hlt, he']
  · have : i = h.length := by omega
    subst this
    rw [List.take_length] at hr
    simp [e5, e6, e7, hr]
theorem T_gsets (h : List (List Int)) (hn : h.length ≤ 1000) (hs : ∀ l, l ∈ h → l.length ≤ 1000) : T Try.prog 111 [.sl .no (lists' h)] (.sl .no (lists' (h.map setI))) := by
  refine T.introF (TS.body mix Try.func111 (by kernel_rfl) rfl (by kernel_rfl) (by simp) ?_)
  simp
  refine vc_loop (fun i : Nat => h.length - i) (fun i e H => ∃ x, e 3 = x ∧ e 6 = .sl .no (lists' h) ∧ e 7 = .int .i64 h.length ∧ e 8 = .int .i64 i ∧ i ≤ h.length ∧ Grow1 1 H x (lists' ((h.map setI).take i))) 0 ?_ ?_
  · refine ⟨.sl .nil [], ?_⟩
    simp [Grow1]
  rintro i e H ⟨x, e3, e6, e7, e8, hi, hg⟩
  by_cases hlt : i < h.length
  · have ew := wrap_next hlt (by omega)
    have hli := hs _ (List.getElem_mem hlt)
    have k1 := T_set h[i] (by omega)
    have hnx : (h.map setI).take (i + 1) = (h.map setI).take i ++ [setI h[i]] := by rw [take_next (by simpa using hlt)]; simp
    have hln : ((h.map setI).take i).length = i := by simp; omega
    simp [e3, e6, e7, e8, hlt]
    refine TS.callW k1 (Dws.self (by simp)) ?_
    rcases hg with ⟨ge, rfl⟩ | ⟨t, rfl, ht⟩
    · rw [avs_eq_nil] at ge
      rw [ge] at hnx
      simp [e3, e6, e7, e8, hlt]
      exact ⟨i + 1, by omega, ew, by omega, .inr ⟨H.length, by rw [hnx]; rfl, by rw [hnx]; simp⟩⟩
    · have htl := (List.getElem?_eq_some_iff.1 ht).1
      have ht' : H[t]? = some (.spare i 1) := by rw [avs_length, hln] at ht; exact ht
      have hmi : min i h.length = i := by omega
      simp [e3, e6, e7, e8, hlt, ht', hmi]
      refine ⟨⟨by omega, by omega⟩, i + 1, by omega, ew, by omega, .inr ⟨t, by rw [hnx], ?_⟩⟩
      rw [List.getElem?_set_self htl, hnx]
      simp [hmi]
  · have : i = h.length := by omega
    subst this
    rw [List.take_of_length_le (by simp)] at hg
    obtain ⟨own, rfl⟩ := hg.own
    simp [e3, e6, e7, e8]
    exact Frz.slN (f := slA (AV.int .i64))
end Go.Proofs.Ytahpoodcmeoabaa.PL
