/- What is said of any table: the statement. -/
import Derived.Test.YtcjfjoilgnlemaaFOf3
import Derived.Test.YtcjfjoilgnlemaaFHeld6
import Derived.Test.YtcjfjoilgnlemaaFSch2
namespace Go.Proofs.Ytcjfjoilgnlemaa.PL
open Go.Proofs
set_option linter.unusedVariables false
set_option linter.unusedSimpArgs false
theorem muchTL_no27 : ∀ {ts : List Tab} {n : Int}, 0 ≤ n → muchTL ts n = false → ∀ t, t ∈ ts → t.cols.length ≤ 400 ∧ t.rows.length ≤ 400
  | [], _, _, _, t, ht => by cases ht
  | u :: ts, n, hn, h, t, ht => by
    unfold muchTL at h
    split at h
    · cases h
    · rename_i h1
      split at h
      · cases h
      · rcases List.mem_cons.1 ht with rfl | ht
        · omega
        · exact muchTL_no27 (by omega) h t ht
theorem muchT_no27 {t : Tab} (h : muchT [t] = false) : t.cols.length ≤ 400 ∧ t.rows.length ≤ 400 := by
  unfold muchT at h
  simp at h
  exact muchTL_no27 (Int.le_refl _) h t (by simp)
theorem mkI_mono27 (n : Nat) {i j : Nat} (h : i ≤ j) : mkI n i ≤ mkI n j := by
  unfold mkI
  exact Nat.div_le_div_right (Nat.mul_le_mul_right _ h)
theorem marksF_sorted (l : List Int) : sortI (marksF l) = marksF l := by
  refine (sort_eq ?_ (List.Perm.refl _)).symm
  unfold marksF
  split
  · exact .nil
  · rename_i hl
    have hn : 0 < l.length := by
      cases l with
      | nil => exact absurd rfl hl
      | cons a l => simp
    rw [List.pairwise_map]
    refine List.Pairwise.imp_of_mem ?_ (List.pairwise_lt_range (n := 9))
    intro i j hi hj hij
    have hj9 := List.mem_range.1 hj
    have hi9 := List.mem_range.1 hi
    have h1 := mkI_mono27 l.length (Nat.le_of_lt hij)
    have h2 : mkI l.length j < (sortI l).length := by rw [sortI_len]; exact mkI_lt hj9 hn
    rw [List.getElem?_eq_getElem h2, List.getElem?_eq_getElem (Nat.lt_of_le_of_lt h1 h2)]
    rcases Nat.eq_or_lt_of_le h1 with h | h
    · simp [h]
    · exact List.pairwise_iff_getElem.1 (sortI_sorted l) _ _ _ _ h
theorem marksF_len9 (l : List Int) : (marksF l).length ≤ 9 := by
  unfold marksF
  split <;> simp
theorem held_staT (t : Tab) (hr : t.rows.length ≤ 1000) (hc : t.cols.length ≤ 16) : heldF (staT t) t.cols.length = staT t := by
  have hcut : cutF (t.rows.length : Nat) = (t.rows.length : Nat) := by unfold cutF; omega
  have hnr : (nearF (t.cols.length : Nat) 16).toNat = t.cols.length := by unfold nearF; omega
  have h1 : (heldF (staT t) t.cols.length).cols = (staT t).cols := by
    show heldK (staT t) _ = staK t _
    rw [hnr]
    apply List.map_congr_left
    intro c hcm
    have hcl : c < (staT t).cols.length := by simpa [staT, staK_len] using hcm
    rw [colI_in hcl]
    have hx : (staT t).cols[c] = colT t c := by simp [staT, staK]
    have hrw : (staT t).rows = (t.rows.length : Nat) := rfl
    rw [hx, hrw, hcut]
    have hm : sortI ((marksF (numV c t.rows)).take 9) = marksF (numV c t.rows) := by
      rw [List.take_of_length_le (marksF_len9 _)]
      exact marksF_sorted _
    have hn := nnV_len c t.rows
    have hu := nubV_len (nnV c t.rows)
    have e1 : nearF (nulV c t.rows : Nat) (t.rows.length : Nat) = (nulV c t.rows : Nat) := by unfold nearF; omega
    have e2 : nearF ((nubV (nnV c t.rows)).length : Nat) ((t.rows.length : Nat) - (nulV c t.rows : Nat)) = ((nubV (nnV c t.rows)).length : Nat) := by unfold nearF; omega
    show CSt.mk _ _ _ = CSt.mk _ _ _
    simp only [colT]
    rw [e1, e2, hm]
  exact sta_eq.2 ⟨hcut, h1⟩
theorem staT_ok (t : Tab) (hc : t.cols.length ≤ 1000) : OkS (staT t) := by
  refine ⟨by simp only [staT, staK_len]; omega, fun x hx => ?_⟩
  obtain ⟨c, _, rfl⟩ := List.mem_map.1 hx
  have := marksF_len9 (numV c t.rows)
  simp only [colT]
  omega
theorem T_HistOfs (t : Tab) (ok : TabIn t) : T Try.prog 5 [t.av] (.bool true) := by
  have km : T Try.prog 23 [.sl .no [t.av]] (.bool (muchT [t])) := T_muchT [t] (by show 1 < _; omega) (fun u hu => by rw [List.mem_singleton.1 hu]; exact ok)
  refine T.intro (TS.body mix Try.func5 (by kernel_rfl) rfl (by kernel_rfl) (by simp) ?_)
  simp
  refine TS.callW km (.cons (.sl (.cons (.self (by simp)) .nil)) .nil) ?_
  cases h : muchT [t] with
  | true =>
    simp
    refine TS.callW T_live27 .nil ?_
    simp
  | false =>
  obtain ⟨hc, hr⟩ := muchT_no27 h
  have hrl : ∀ r, r ∈ t.rows → r.length < 4611686018427387904 := fun r hr => (ok.row r hr).1
  have k1 := T_hof t (by omega) hrl (by omega)
  have k2 := T_rof27 t (by omega) hrl (by omega)
  have hok := staT_ok t (by omega)
  have k3 := T_rsame27 (staT t) (staT t) hok
  have k4 := T_hright (staT t) t.cols.length hok
  simp
  refine TS.callW k1 (Dws.self (by simp)) ?_
  simp
  refine TDK.callW k2 (Dws.self (by simp)) ?_
  simp
  refine TDK.callW k3 (Dws.self (by simp)) ?_
  by_cases h16 : t.cols.length ≤ 16
  · have e16 : decide ((16 : Int) < t.cols.length) = false := by simp; omega
    rw [held_staT t (by omega) h16] at k4
    simp [e16]
    refine GTK.callW (fun _ => ⟨k4, Dws.self (by simp)⟩) ?_
    simp [e16]
    refine GTK.callW (fun _ => ⟨T_live27, .nil⟩) ?_
    simp
  · have e16 : decide ((16 : Int) < t.cols.length) = true := by simp; omega
    simp [e16]
    refine GTK.callW (fun h => nomatch h) (ys := []) (r := .bool true) ?_
    simp [e16]
    refine GTK.callW (fun _ => ⟨T_live27, .nil⟩) ?_
    simp
theorem S_HistOfs {xs : List AV} (h : ShA Try.prog [43] xs) : T Try.prog 5 xs (.bool true) := by
  obtain ⟨y, r, rfl, h0, h⟩ := h.cons_of ag_43
  obtain rfl := h.nil_of
  obtain ⟨t, ht, ok⟩ := Tab_in h0
  rw [ht]
  exact T_HistOfs t ok
end Go.Proofs.Ytcjfjoilgnlemaa.PL
