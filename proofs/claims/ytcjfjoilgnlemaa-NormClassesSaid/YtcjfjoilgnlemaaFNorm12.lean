/- Conditions, by where they are asked: the tables they name, by the program. -/
import Derived.Test.YtcjfjoilgnlemaaFNorm5
import Derived.Test.YtcjfjoilgnlemaaFSort
namespace Go.Proofs.Ytcjfjoilgnlemaa.PL
open Go.Proofs
set_option linter.unusedVariables false
set_option linter.unusedSimpArgs false
/-- each once, of those beside one another -/
def comI (l : List Int) : Nat → List Int
  | 0 => []
  | i + 1 => if i = 0 ∨ l.getD i 0 ≠ l.getD (i - 1) 0 then comI l i ++ [l.getD i 0] else comI l i
theorem comI_len (l : List Int) : ∀ i, (comI l i).length ≤ i ∧ (0 < i → 0 < (comI l i).length)
  | 0 => by simp [comI]
  | i + 1 => by
    have := comI_len l i
    rw [comI]
    split
    · simp; omega
    · rename_i h
      have : ¬ i = 0 := fun h' => h (.inl h')
      omega
set_option maxRecDepth 4000 in
set_option maxHeartbeats 2000000 in
theorem S_compactMv {H : List HO} {r n : Nat} {l : List Int} (hn : l.length = n) (hr : H[r]? = some (.row n 1 (ints' l))) (hl : n < 4611686018427387904) (h0 : 0 < n) : TS Try.prog 75 [.mv r n 1 0 n] H (fun x H' => ∃ cs, x = .mv r n 1 0 (comI l n).length ∧ H' = H.set r (.row n 1 cs) ∧ cs.length = n ∧ cs.take (comI l n).length = ints' (comI l n)) := by
  subst hn
  have hrl := (List.getElem?_eq_some_iff.1 hr).1
  have hset : H.set r (.row l.length 1 (ints' l)) = H := set_self' hr
  have h1 : comI l 1 = l.take 1 := by
    cases l with
    | nil => simp at h0
    | cons x l => simp [comI]
  refine TS.body mix Try.func75 (by kernel_rfl) rfl (by kernel_rfl) (by simp) ?_
  by_cases hl2 : l.length < 2
  · have hl1 : l.length = 1 := by omega
    have hc : comI l l.length = l := by rw [hl1, h1, List.take_of_length_le (by omega)]
    rw [hc]
    have hl3 : (l.length : Int) < 2 := by omega
    simp [hl3]
    exact ⟨ints' l, hset.symm, by simp, by rw [List.take_of_length_le (by simp)]⟩
  have hl3 : ¬ (l.length : Int) < 2 := by omega
  simp [hl3]
  refine vc_loop (fun k : Nat => l.length - k) (fun k e H' => e 0 = .mv r l.length 1 0 l.length ∧ e 3 = .int .i64 k ∧ 1 ≤ k ∧ k ≤ l.length ∧ comI l k = l.take k ∧ H' = H) 1 ?_ ?_
  · simp [h1]
    omega
  rintro k e G ⟨e0, e3, hk1, hk, hck, rfl⟩
  by_cases hlt : k < l.length
  · have ew := wrap_next hlt (by omega)
    have ewm : IntKind.i64.wrap ((k : Int) - 1) = ((k - 1 : Nat) : Int) := by rw [wrap_i64 (by omega) (by omega)]; omega
    have hkm : k - 1 < l.length := by omega
    have hlk : (l.take k).length = k := by rw [List.length_take]; omega
    have hnx : comI l (k + 1) = if l[k] = l[k - 1] then comI l k else comI l k ++ [l[k]] := by
      rw [comI]
      simp [hlt, hkm]
      by_cases hq : l[k] = l[k - 1]
      · rw [if_pos hq, if_neg]
        rintro (h | h)
        · omega
        · exact h hq
      · rw [if_neg hq, if_pos (.inr hq)]
    by_cases hq : l[k] = l[k - 1]
    · rw [if_pos hq, hck] at hnx
      simp [e0, e3, hlt, hr, ewm, hkm, hq]
      refine ⟨by omega, ?_⟩
      refine vc_loop (fun j : Nat => l.length - (k + j)) (fun j e H' => ∃ D R : List Int, e 0 = .mv r l.length 1 0 l.length ∧ e 3 = .int .i64 D.length ∧ e 4 = .mv r l.length 1 k (l.length - k) ∧ e 5 = .int .i64 j ∧ 1 ≤ j ∧ k + j ≤ l.length ∧ D.length < k + j ∧ D = comI l (k + j) ∧ R = D ++ l.drop D.length ∧ H' = G.set r (.row l.length 1 (ints' R))) 1 ?_ ?_
      · refine ⟨l.take k, l, ?_⟩
        simp [e0, e3, hnx, hlk]
        exact ⟨by omega, hset.symm⟩
      clear e0 e3 e
      rintro j e H' ⟨D, R, e0, e3, e4, e5, hj1, hj, hDi, hD, hR, rfl⟩
      have hRl : R.length = l.length := by rw [hR, List.length_append, List.length_drop]; omega
      have hRi : ∀ q (h : q < R.length) (h' : q < l.length), D.length ≤ q → R[q] = l[q] := by
        intro q h h' hq
        subst hR
        rw [List.getElem_append_right (by omega), List.getElem_drop]
        congr 1
        omega
      have e1 : R.take D.length = D := by rw [hR, List.take_left']; rfl
      by_cases hil : k + j < l.length
      · have hjm : k + (j - 1) < l.length := by omega
        have hnx2 : comI l (k + (j + 1)) = if l[k + j] = l[k + (j - 1)] then D else D ++ [l[k + j]] := by
          rw [show k + (j + 1) = (k + j) + 1 by omega, comI, ← hD]
          have h3 : k + j - 1 = k + (j - 1) := by omega
          simp [hil, h3, hjm]
          by_cases hq : l[k + j] = l[k + (j - 1)]
          · rw [if_pos hq, if_neg]
            rintro (h | h)
            · omega
            · exact h hq
          · rw [if_neg hq, if_pos (.inr hq)]
        have a1 := hRi (k + j) (by omega) hil (by omega)
        have a2 := hRi (k + (j - 1)) (by omega) hjm (by omega)
        have b1 : k + j < R.length := by omega
        have b2 : k + (j - 1) < R.length := by omega
        have ejw : IntKind.i64.wrap ((j : Int) + 1) = ((j + 1 : Nat) : Int) := wrap_next (n := l.length) (by omega) (by omega)
        have ejm : IntKind.i64.wrap ((j : Int) - 1) = ((j - 1 : Nat) : Int) := by rw [wrap_i64 (by omega) (by omega)]; omega
        have c1 : j < l.length - k := by omega
        have c2 : j - 1 < l.length - k := by omega
        by_cases hq2 : l[k + j] = l[k + (j - 1)]
        · rw [if_pos hq2] at hnx2
          simp [e0, e3, e4, e5, c1, c2, hrl, a1, a2, b1, b2, ejm, hq2]
          exact ⟨j + 1, by omega, D, rfl, ejw, by omega, by omega, by omega, hnx2.symm, by rw [hR]⟩
        · rw [if_neg hq2] at hnx2
          simp [e0, e3, e4, e5, c1, c2, hrl, a1, a2, b1, b2, ejm, hq2]
          have e2 : R.drop (D.length + 1) = l.drop (D.length + 1) := by rw [hR, ← List.drop_drop, List.drop_left, List.drop_drop]
          have ewD : IntKind.i64.wrap ((D.length : Int) + 1) = ((D.length + 1 : Nat) : Int) := wrap_next hDi (by omega)
          refine ⟨by omega, by omega, j + 1, by omega, D ++ [l[k + j]], by simpa using ewD, ejw, by omega, by omega, by simp; omega, hnx2.symm, ?_⟩
          rw [e1, e2]
          simp
      · have hje : k + j = l.length := by omega
        have hnj : ¬ j < l.length - k := by omega
        rw [hje] at hD
        simp [e0, e3, e4, e5, hrl, hRl, hnj]
        have e3' : (repeatA [AV.int .i64 0] (l.length - D.length)).length = l.length - D.length := by rw [repeatA_len]; simp
        refine ⟨by omega, by rw [hD], _, rfl, ?_, ?_⟩
        · simp [e1, e3', hRl]
          omega
        · rw [e1, ← hD, List.take_left']
          simp
    · rw [if_neg hq, hck] at hnx
      simp [e0, e3, hlt, hr, ewm, hkm, hq]
      exact ⟨k + 1, by omega, ew, by omega, by omega, by rw [hnx, take_next hlt]⟩
  · have : k = l.length := by omega
    subst this
    have hc : comI l l.length = l := by rw [hck, List.take_length]
    rw [hc]
    simp [e0, e3]
    exact ⟨ints' l, hset.symm, by simp, by rw [List.take_of_length_le (by simp)]⟩
theorem S_compactNil {H : List HO} : TS Try.prog 75 [.sl .nil []] H (pt (.sl .nil []) H) := by
  refine TS.body mix Try.func75 (by kernel_rfl) rfl (by kernel_rfl) (by simp) ?_
  simp
theorem comI_sort (l : List Int) : comI (sortI l) (sortI l).length = setI l := by
  have hs : (sortI l).Pairwise (· ≤ ·) := by
    have h1 : (sortI l).Pairwise (fun a b => decide (a ≤ b) = true) := List.pairwise_mergeSort (by simp; omega) (by simp; omega) l
    exact h1.imp fun {a b} h => by simpa using h
  obtain ⟨m, hm⟩ : ∃ m, m = sortI l := ⟨_, rfl⟩
  rw [← hm] at hs
  have key : ∀ i, i ≤ m.length → Rises (comI m i) ∧ (∀ x, x ∈ comI m i ↔ x ∈ m.take i) := by
    intro i
    induction i with
    | zero => intro _; simp [comI, Rises]
    | succ i ih =>
      intro hi
      obtain ⟨ih1, ih2⟩ := ih (by omega)
      have hil : i < m.length := by omega
      have hg : m.getD i 0 = m[i] := by simp [hil]
      rw [comI, hg, take_next hil]
      by_cases h0 : i = 0
      · subst h0
        simp [comI, Rises]
      have hil2 : i - 1 < m.length := by omega
      have hg2 : m.getD (i - 1) 0 = m[i - 1] := by simp [hil2]
      rw [hg2]
      have hle : ∀ x, x ∈ m.take i → x ≤ m[i - 1] := by
        intro x hx
        obtain ⟨q, hq, rfl⟩ := List.getElem_of_mem hx
        rw [List.length_take] at hq
        rw [List.getElem_take]
        rcases Nat.lt_or_ge q (i - 1) with h | h
        · exact (List.pairwise_iff_getElem.1 hs) q (i - 1) (by omega) hil2 h
        · have : q = i - 1 := by omega
          subst this; exact Int.le_refl _
      have hle2 := (List.pairwise_iff_getElem.1 hs) (i - 1) i hil2 hil (by omega)
      by_cases hq : m[i] = m[i - 1]
      · rw [if_neg]
        · refine ⟨ih1, fun x => ?_⟩
          rw [ih2, List.mem_append, List.mem_singleton]
          refine ⟨.inl, ?_⟩
          rintro (h | rfl)
          · exact h
          · rw [hq]
            exact List.mem_iff_getElem.2 ⟨i - 1, by simp; omega, by simp⟩
        · rintro (h | h)
          · exact h0 h
          · exact h hq
      · rw [if_pos (.inr hq)]
        refine ⟨?_, fun x => by rw [List.mem_append, List.mem_append, ih2]⟩
        unfold Rises at ih1 ⊢
        rw [List.pairwise_append]
        refine ⟨ih1, by simp, fun x hx y hy => ?_⟩
        rw [List.mem_singleton] at hy
        subst hy
        have := hle x ((ih2 x).1 hx)
        omega
  rw [← hm]
  obtain ⟨k1, k2⟩ := key m.length (Nat.le_refl _)
  refine rises_eq k1 (setI_rises l) fun x => ?_
  rw [k2, List.take_length, setI_mem, hm]
  exact List.mem_mergeSort
set_option maxRecDepth 4000 in
set_option maxHeartbeats 2000000 in
theorem T_nuses (e : Ex') (he : OkE e) (hn : e.nodes ≤ 1000000) : T Try.prog 31 [e.av] (.sl .no (ints' (usesI e))) := by
  have kc := T_cols e he hn
  have hcl := e.cols_len
  unfold usesI
  obtain ⟨C, hC⟩ : ∃ C, C = e.cols := ⟨_, rfl⟩
  rw [← hC] at kc hcl ⊢
  clear hC
  simp only [Ex'.av_eq] at kc
  refine T.introF (TS.bodyM [17] mix Try.func31 (by kernel_rfl) rfl (by kernel_rfl) (by simp) ?_)
  simp
  refine TS.callW kc (Dws.self (by simp)) ?_
  simp
  refine vc_loop (fun i : Nat => C.length - i) (fun i e' H => ∃ r, e' 7 = .sl .no (exprs C) ∧ e' 8 = .int .i64 C.length ∧ e' 9 = .int .i64 i ∧ i ≤ C.length ∧ ((i = 0 ∧ e' 3 = .sl .nil []) ∨ (0 < i ∧ e' 3 = .mv r i 1 0 i ∧ H[r]? = some (.row i 1 (ints' ((C.take i).map Ex'.t)))))) 0 ?_ ?_
  · simp
  rintro i e' H ⟨r, e7, e8, e9, hi, hg⟩
  by_cases hlt : i < C.length
  · have ew := wrap_next hlt (by omega)
    have hnx : (C.take (i + 1)).map Ex'.t = (C.take i).map Ex'.t ++ [(C[i]).t] := by rw [take_next hlt, List.map_append]; rfl
    rcases hg with ⟨rfl, e3⟩ | ⟨h0, e3, hr⟩
    · simp [e3, e7, e8, e9, hlt]
      refine ⟨1, by omega, rfl, by omega, by omega, _, ⟨rfl, rfl⟩, ?_⟩
      have h1 : List.take 1 (List.map Ex'.t C) = [(C[0]).t] := by rw [← List.map_take, hnx]; simp
      rw [List.getElem?_append_right (by omega), h1]
      simp
    · have hrl := (List.getElem?_eq_some_iff.1 hr).1
      have hr' : ∀ Y : List HO, (H ++ Y)[r]? = some (.row i 1 (ints' ((C.take i).map Ex'.t))) := fun Y => by rw [List.getElem?_append_left hrl]; exact hr
      simp only [List.map_take] at hr' hnx
      simp [e3, e7, e8, e9, hlt, hr']
      refine ⟨⟨by omega, by omega⟩, i + 1, by omega, ew, by omega, by omega, r, ⟨rfl, rfl⟩, ?_⟩
      rw [List.getElem?_set_self (by simp; omega), hnx]
  · have : i = C.length := by omega
    subst this
    rw [List.take_length] at hg
    rcases hg with ⟨h0, e3⟩ | ⟨h0, e3, hr⟩
    · have hC0 : C = [] := List.eq_nil_of_length_eq_zero h0
      subst hC0
      simp [e3, e7, e8, e9]
      refine TS.pt S_sortNone ?_
      simp [e3, e7, e8, e9]
      refine TS.pt S_compactNil ?_
      simp
      exact Frz.slN (f := AV.int .i64) (l := [])
    · have ks := S_sortInts (by simp) hr (by omega) h0
      have hrl := (List.getElem?_eq_some_iff.1 hr).1
      have hsl : (sortI (C.map Ex'.t)).length = C.length := by rw [sortI_len]; simp
      simp [e3, e7, e8, e9]
      refine TS.pt ks ?_
      simp [e3, e7, e8, e9]
      refine (S_compactMv hsl (List.getElem?_set_self hrl) (by omega) h0).mono ?_
      rintro x H' ⟨cs, rfl, rfl, hcl2, hct⟩
      have hset := comI_sort (C.map Ex'.t)
      rw [hsl] at hset
      rw [hset] at hct ⊢
      simp [e3, e7, e8, e9]
      refine .mv (List.getElem?_set_self hrl) ?_ (by simp) (fun y hy => by obtain ⟨a, _, rfl⟩ := mem_avs.1 hy; rfl)
      rw [Nat.zero_mul, List.drop_zero, Nat.mul_one, hct, avs_flat1 fun _ => rfl]
      exact FrzC.refl fun x hx => by obtain ⟨a, _, rfl⟩ := mem_avs.1 hx; simp
end Go.Proofs.Ytcjfjoilgnlemaa.PL
