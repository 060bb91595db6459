/- The laws of worth. -/
import Derived.Test.YtaahlhhpmooliaaDoorFEval
namespace Go.Proofs.YtaahlhhpmooliaaDoor.PL
open Go.Proofs
set_option linter.unusedVariables false
set_option linter.unusedSimpArgs false
def in13 (n : Int) (r : List Val) : Int := r.foldl (fun n v => IntKind.i64.wrap (IntKind.i64.wrap (n + 1) + v.s.size)) n
def m13 : List (List Val) → Int → Bool
  | [], _ => false
  | r :: rs, n => if 40 < r.length ∨ 2000 < in13 n (r.take 50) then true else m13 rs (in13 n (r.take 50))
def much13 (L : List (List Val)) : Bool := m13 (L.take 70) 0 || decide (60 < L.length)
theorem T_much13 (L : List (List Val)) (hL : L.length < 4611686018427387904) : T Tryd.prog 10 [.sl .no (rows' L)] (.bool (much13 L)) := by
  refine T.intro (TS.body mix Tryd.func10 (by kernel_rfl) rfl (by kernel_rfl) (by simp) ?_)
  simp
  refine vc_loop (fun i : Nat => 70 - i) (fun i e H => ∃ n : Int, e 0 = .sl .no (rows' L) ∧ e 3 = .int .i64 n ∧ e 4 = .int .i64 i ∧ i ≤ 70 ∧ i ≤ L.length ∧ much13 L = (m13 ((L.take 70).drop i) n || decide (60 < L.length))) 0 ?_ ?_
  · exact ⟨0, by simp [much13]⟩
  rintro i e H ⟨n, h0, h3, h4, hi, hi2, hm⟩
  by_cases hlt : i < L.length ∧ i < 70
  · have hlt' : i < (L.take 70).length := by rw [List.length_take]; omega
    have ed : (L.take 70).drop i = L[i] :: (L.take 70).drop (i + 1) := by rw [List.drop_eq_getElem_cons hlt', List.getElem_take]
    have h70 : ((i : Int) < 70) = True := eq_true (by omega)
    rw [ed, m13] at hm
    generalize hX : L[i] = r at *
    simp [h0, h3, h4, hlt.1, h70, hX]
    refine vc_loop (fun j : Nat => 50 - j) (fun j e H => e 0 = .sl .no (rows' L) ∧ e 3 = .int .i64 (in13 n ((r.take 50).take j)) ∧ e 4 = .int .i64 i ∧ e 5 = .int .i64 j ∧ j ≤ 50 ∧ j ≤ r.length) 0 ?_ ?_
    · simp [h0, h3, h4, in13]
    clear h0 h3 h4 e
    rintro j e H ⟨h0, h3, h4, h5, hj, hj2⟩
    by_cases hjl : j < r.length ∧ j < 50
    · have hjl' : j < (r.take 50).length := by rw [List.length_take]; omega
      have h50 : ((j : Int) < 50) = True := eq_true (by omega)
      have en : in13 n ((r.take 50).take (j + 1)) = IntKind.i64.wrap (IntKind.i64.wrap (in13 n ((r.take 50).take j) + 1) + r[j].s.size) := by
        rw [take_next hjl', in13, List.foldl_append]
        simp [in13]
      simp [h0, h3, h4, h5, hlt.1, hX, hjl.1, h50]
      exact ⟨j + 1, by omega, en.symm, wrap_next hjl.2 (by omega), by omega, by omega⟩
    · have hc : (decide (j < r.length) && decide ((j : Int) < 50)) = false := by simp; omega
      have e50 : (r.take 50).take j = r.take 50 := List.take_of_length_le (by rw [List.length_take]; omega)
      rw [e50] at h3
      simp [h0, h3, h4, h5, hlt.1, hX, hc]
      refine condK_of (fun q => ?_) (fun q => ?_)
      · simp at q
        rw [if_pos (by omega)] at hm
        simp [hm]
      · simp at q
        rw [if_neg (by omega)] at hm
        simp [h0, h3, h4, h5, hlt.1, hX]
        exact ⟨i + 1, by omega, wrap_next hlt.1 (by omega), by omega, by omega, hm⟩
  · have hc : (decide (i < L.length) && decide ((i : Int) < 70)) = false := by simp; omega
    have he : (L.take 70).drop i = [] := List.drop_of_length_le (by rw [List.length_take]; omega)
    simp [h0, h3, h4, hc]
    rw [hm, he]; simp [m13]
    try omega
def lv15 : Ex' := .mk 15 ByteArray.empty ByteArray.empty 0 0 zV []
def lv16 : Ex' := .mk 16 ByteArray.empty ByteArray.empty 0 0 zV []
def lvEq : Ex' := .mk 1 ByteArray.empty ByteArray.empty 0 0 zV [lv15, lv16]
def lvNot : Ex' := .mk 12 ByteArray.empty ByteArray.empty 0 0 zV [lvEq]
def lvRows : List (List Val) := [[⟨1, 7, ByteArray.empty⟩]]
theorem ok_lv : OkE lv15 ∧ OkE lv16 ∧ OkE lvEq ∧ OkE lvNot := by
  have o1 : OkE lv15 := .mk (by simp [lv15]) (by simpa [lv15] using zV_in) (by decide) (by decide) (by simp [lv15])
  have o2 : OkE lv16 := .mk (by simp [lv16]) (by simpa [lv16] using zV_in) (by decide) (by decide) (by simp [lv16])
  have o3 : OkE lvEq := .mk (by simp [lvEq]) (by simpa [lvEq] using zV_in) (by decide) (by decide) (by simp [lvEq, o1, o2])
  exact ⟨o1, o2, o3, .mk (by simp [lvNot]) (by simpa [lvNot] using zV_in) (by decide) (by decide) (by simp [lvNot, o3])⟩
theorem ok_lvRows : RowsOk lvRows := ⟨by simp [lvRows], by simp [lvRows], by simp [lvRows, valIn]⟩
theorem rows_in {cs : List AV} (h : Sh Tryd.prog 35 cs) : ∃ rs : List (List Val), cs = [.sl .no (rows' rs)] ∧ RowsOk rs := by
  have hr := reach_lt
  obtain ⟨zs, rfl, hz, hzl⟩ := h.sl_of un_35 ag_40
  obtain ⟨rows, er, elr, hrow⟩ := list_in (f := rowA) (g := mkAV false) (Q := fun r => r.length < 4611686018427387904 ∧ ∀ v, v ∈ r → valIn v) (fun z hz' => by
    obtain ⟨l, e, hv, hlen⟩ := vals_in (hz z hz')
    exact ⟨l, by rw [e]; rfl, hlen, hv⟩)
  have b2 : 1 ≤ Tryd.prog.bytesOf 40 := by decide +kernel
  have m2 := Nat.mul_le_mul_left zs.length b2
  exact ⟨rows, by rw [er]; rfl, by omega, fun r hr => (hrow r hr).1, fun r hr => (hrow r hr).2⟩
end Go.Proofs.YtaahlhhpmooliaaDoor.PL
