/- What is said of any table: by the reference. -/
import Derived.Test.YtcjfjoilgnlemaaFHeld6
import Derived.Test.YtcjfjoilgnlemaaFSch2
namespace Go.Proofs.Ytcjfjoilgnlemaa.PL
open Go.Proofs
set_option linter.unusedVariables false
set_option linter.unusedSimpArgs false
theorem filter_next {α : Type} {q : α → Bool} {l : List α} {i : Nat} (h : i < l.length) : (l.take (i + 1)).filter q = if q l[i] = true then (l.take i).filter q ++ [l[i]] else (l.take i).filter q := by
  rw [take_next h, List.filter_append]
  by_cases hq : q l[i] = true
  · rw [if_pos hq]; simp [hq]
  · rw [if_neg hq]; simp [hq]
/-- a list that grows in memory, and its place -/
def Gq (k sz : Nat) (J : List HO) (x : AV) (xs : List AV) : Option Nat → Prop
  | none => xs = [] ∧ (x = .sl .nil [] ∨ x = .sl .exact [])
  | some t => x = .sl (.tok (t + k)) xs ∧ J[t]? = some (.spare xs.length sz)
namespace Gq
variable {k sz : Nat} {J : List HO} {x : AV} {xs : List AV} {o : Option Nat}
theorem app (h : Gq k sz J x xs o) (Y : List HO) : Gq k sz (J ++ Y) x xs o := by
  cases o with
  | none => exact h
  | some t => exact ⟨h.1, by rw [List.getElem?_append_left (List.getElem?_eq_some_iff.1 h.2).1]; exact h.2⟩
theorem set (h : Gq k sz J x xs o) {t : Nat} (ht : o ≠ some t) (y : HO) : Gq k sz (J.set t y) x xs o := by
  cases o with
  | none => exact h
  | some u => exact ⟨h.1, by rw [List.getElem?_set_ne (fun e => ht (by rw [e]))]; exact h.2⟩
theorem lt (h : Gq k sz J x xs o) : ∀ t, o = some t → t < J.length := by
  rintro t rfl
  exact (List.getElem?_eq_some_iff.1 h.2).1
theorem own (h : Gq k sz J x xs o) : ∃ own, x = .sl own xs := by
  cases o with
  | none => obtain ⟨rfl, h | h⟩ := h <;> exact ⟨_, h⟩
  | some t => exact ⟨_, h.1⟩
theorem ne {sz' : Nat} {x' : AV} {xs' : List AV} {o' : Option Nat} (h : Gq k sz J x xs o) (h' : Gq k sz' J x' xs' o') (hs : sz ≠ sz') : ∀ t, o' = some t → o ≠ some t := by
  rintro t rfl rfl
  have a := h.2
  have b := h'.2
  rw [a] at b
  injection b with b
  injection b with _ b
  exact hs b
theorem more {α : Type} {f : α → AV} {l : List α} {a : α} {t n : Nat} (ht : J[t]? = some (.spare (avs f l).length sz)) (hn : n = l.length + 1) : Gq k sz (J.set t (.spare n sz)) (.sl (.tok (t + k)) (avs f (l ++ [a]))) (avs f (l ++ [a])) (some t) :=
  ⟨rfl, by rw [List.getElem?_set_self (List.getElem?_eq_some_iff.1 ht).1]; simp [hn]⟩
end Gq
instance : Selfs Val.av := ⟨fun a x h => by simp at h; rcases h with rfl | rfl | rfl <;> simp⟩
def zW : Val := ⟨0, 0, ByteArray.empty⟩
/-- a row's value -/
def vAt (c : Nat) (r : List Val) : Val := if h : c < r.length then r[c] else zW
def nulV (c : Nat) (rs : List (List Val)) : Nat := (rs.filter fun r => decide ((vAt c r).k = 0)).length
def nnV (c : Nat) (rs : List (List Val)) : List Val := (rs.map (vAt c)).filter fun v => !decide (v.k = 0)
def numV (c : Nat) (rs : List (List Val)) : List Int := ((nnV c rs).filter fun v => decide (v.k = 1)).map Val.i
open Classical in
noncomputable def addV (s : List Val) (v : Val) : List Val := if v ∈ s then s else s ++ [v]
noncomputable def nubV (l : List Val) : List Val := l.foldl addV []
theorem nubV_snoc (l : List Val) (v : Val) : nubV (l ++ [v]) = addV (nubV l) v := by unfold nubV; rw [List.foldl_append]; rfl
theorem addV_len (s : List Val) (v : Val) : (addV s v).length ≤ s.length + 1 := by unfold addV; split <;> simp
theorem nubV_len (l : List Val) : (nubV l).length ≤ l.length := by
  have : ∀ (l s : List Val), (l.foldl addV s).length ≤ s.length + l.length := by
    intro l
    induction l with
    | nil => intro s; simp
    | cons v l ih =>
      intro s
      have h1 := ih (addV s v)
      have h2 := addV_len s v
      simp only [List.foldl_cons, List.length_cons]
      omega
  have := this l []
  simpa [nubV] using this
theorem nulV_next {c : Nat} {rs : List (List Val)} {i : Nat} (h : i < rs.length) : nulV c (rs.take (i + 1)) = nulV c (rs.take i) + if (vAt c rs[i]).k = 0 then 1 else 0 := by
  unfold nulV
  rw [filter_next h]
  by_cases h2 : (vAt c rs[i]).k = 0 <;> simp [h2]
theorem nnV_next {c : Nat} {rs : List (List Val)} {i : Nat} (h : i < rs.length) : nnV c (rs.take (i + 1)) = nnV c (rs.take i) ++ if (vAt c rs[i]).k = 0 then [] else [vAt c rs[i]] := by
  unfold nnV
  rw [take_next h, List.map_append, List.filter_append]
  by_cases h2 : (vAt c rs[i]).k = 0 <;> simp [h2]
theorem numV_next {c : Nat} {rs : List (List Val)} {i : Nat} (h : i < rs.length) : numV c (rs.take (i + 1)) = numV c (rs.take i) ++ if (vAt c rs[i]).k = 1 then [(vAt c rs[i]).i] else [] := by
  unfold numV
  rw [nnV_next h, List.filter_append, List.map_append]
  by_cases h2 : (vAt c rs[i]).k = 0
  · have : ¬ (vAt c rs[i]).k = 1 := by omega
    simp [h2]
  · by_cases h3 : (vAt c rs[i]).k = 1 <;> simp [h2, h3]
theorem nnV_len (c : Nat) (rs : List (List Val)) : nulV c rs + (nnV c rs).length = rs.length := by
  induction rs with
  | nil => simp [nulV, nnV]
  | cons r rs ih =>
    unfold nulV nnV at *
    by_cases h : (vAt c r).k = 0 <;> simp [h] <;> omega
theorem numV_len (c : Nat) (rs : List (List Val)) : (numV c rs).length ≤ rs.length := by
  have h1 := nnV_len c rs
  have h2 := List.length_filter_le (fun v : Val => decide (v.k = 1)) (nnV c rs)
  unfold numV
  rw [List.length_map]
  omega
/-- what is said of a column -/
noncomputable def colT (t : Tab) (c : Nat) : CSt := ⟨(nubV (nnV c t.rows)).length, nulV c t.rows, marksF (numV c t.rows)⟩
theorem val_dec (a b : Val) : decide (a.k = b.k ∧ a.i = b.i ∧ a.s = b.s) = true ↔ a = b := by
  rw [decide_eq_true_iff]
  obtain ⟨a1, a2, a3⟩ := a
  obtain ⟨b1, b2, b3⟩ := b
  simp
open Classical in
noncomputable def anyV (s : List Val) (v : Val) : Bool := s.any fun a => decide (a = v)
theorem anyV_next {s : List Val} {v : Val} {j : Nat} (h : j < s.length) : anyV (s.take (j + 1)) v = (anyV (s.take j) v || decide (s[j].k = v.k ∧ s[j].i = v.i ∧ s[j].s = v.s)) := by
  unfold anyV
  rw [take_next h, List.any_append]
  congr 1
  have := val_dec s[j] v
  rw [Bool.eq_iff_iff]
  simp only [List.any_cons, List.any_nil, Bool.or_false, decide_eq_true_eq]
  simp only [decide_eq_true_eq] at this
  exact this.symm
theorem anyV_mem {s : List Val} {v : Val} : anyV s v = true ↔ v ∈ s := by
  unfold anyV
  rw [List.any_eq_true]
  constructor
  · rintro ⟨a, h1, h2⟩
    simp at h2
    exact h2 ▸ h1
  · exact fun h => ⟨v, h, by simp⟩
abbrev C2 (u : Int) (n : Nat) (m : AV) : HO := .box [.int .i64 u, .int .i64 n, m]
/-- some rows seen, by the reference -/
def RC (t : Tab) (c i : Nat) (x6 x7 : AV) (H : List HO) : Prop := ∃ c4 J o6 o7, c4.length = 3 ∧ H = .box t.cs :: .box c4 :: C2 0 (nulV c (t.rows.take i)) (.sl .exact []) :: J ∧ Gq 3 1 J x6 (ints' (numV c (t.rows.take i))) o6 ∧ Gq 3 3 J x7 (vals' (nubV (nnV c (t.rows.take i)))) o7
theorem RC.mk {t : Tab} {c i : Nat} {x6 x7 : AV} {c4 : List AV} {J : List HO} {o6 o7 : Option Nat} {k : Nat} {A : List Int} {B : List Val} (h4 : c4.length = 3) (hk : k = nulV c (t.rows.take i)) (hA : A = numV c (t.rows.take i)) (hB : B = nubV (nnV c (t.rows.take i))) (h6 : Gq 3 1 J x6 (ints' A) o6) (h7 : Gq 3 3 J x7 (vals' B) o7) : RC t c i x6 x7 (.box t.cs :: .box c4 :: C2 0 k (.sl .exact []) :: J) := by
  subst hk hA hB
  exact ⟨c4, J, o6, o7, h4, rfl, h6, h7⟩
set_option maxRecDepth 4000 in
set_option maxHeartbeats 8000000 in
theorem T_rcol27 (t : Tab) (c : Nat) (hr : t.rows.length ≤ 1000) (hrl : ∀ r, r ∈ t.rows → r.length < 4611686018427387904) (hc : c ≤ 1000) : T Try.prog 72 [t.av, .int .i64 c] (colT t c).av := by
  refine T.introF (TS.body mix Try.func72 (by kernel_rfl) rfl (by kernel_rfl) (by simp) ?_)
  simp
  refine vc_loop (fun i : Nat => t.rows.length - i) (fun i e H => e 1 = .int .i64 c ∧ e 2 = .ptr 0 0 ∧ e 4 = .ptr 1 0 ∧ e 5 = .ptr 2 0 ∧ e 8 = .int .i64 i ∧ i ≤ t.rows.length ∧ RC t c i (e 6) (e 7) H) 0 ?_ ?_
  · simp
    refine ⟨_, [], none, none, ?_, rfl, ?_, ?_⟩
    · rfl
    · simp [Gq, numV, nnV]
    · simp [Gq, nnV, nubV]
  rintro i e H ⟨e1, e2, e4, e5, e8, hi, c4, J, o6, o7, hc4, rfl, g6, g7⟩
  by_cases hlt : i < t.rows.length
  · have ew := wrap_next hlt (by omega)
    have hri := hrl _ (List.getElem_mem hlt)
    have n1 := nulV_next (c := c) hlt
    have n2 := nnV_next (c := c) hlt
    have n3 := numV_next (c := c) hlt
    have hnl := nnV_len c (t.rows.take i)
    have hml := numV_len c (t.rows.take i)
    have hul := nubV_len (nnV c (t.rows.take i))
    rw [List.length_take] at hnl hml
    obtain ⟨v, hv⟩ : ∃ v, v = vAt c t.rows[i] := ⟨_, rfl⟩
    rw [← hv] at n1 n2 n3
    obtain ⟨own7, ho7⟩ := g7.own
    have hnk0 : nulV c (t.rows.take i) ≤ 1000 := by omega
    have wn : IntKind.i64.wrap ((nulV c (t.rows.take i) : Int) + 1) = ((nulV c (t.rows.take i) + 1 : Nat) : Int) := wrap_next (n := 100000) (by omega) (by omega)
    obtain ⟨B, hB⟩ : ∃ B, B = nubV (nnV c (t.rows.take i)) := ⟨_, rfl⟩
    obtain ⟨A, hA⟩ : ∃ A, A = numV c (t.rows.take i) := ⟨_, rfl⟩
    have hBl : B.length ≤ 1000 := by rw [hB]; omega
    have hAl : A.length ≤ 1000 := by rw [hA]; omega
    rw [← hB] at g7 ho7
    rw [← hA] at g6 n3
    by_cases hcl : c < (t.rows[i]).length
    · have hv' : v = (t.rows[i])[c] := by rw [hv]; unfold vAt; rw [dif_pos hcl]
      simp [e1, e2, e4, e5, e8, hlt, hcl]
      rw [← hv']
      refine condK_of (fun h => ?_) (fun h => ?_)
      · simp at h
        rw [if_pos h] at n1 n2
        rw [if_neg (by omega), List.append_nil] at n3
        rw [List.append_nil] at n2
        simp [e1, e2, e4, e5, e8, hlt, hcl, wn]
        exact ⟨i + 1, by omega, ew, by omega, RC.mk hc4 n1.symm n3.symm (by rw [n2]; exact hB) (g6.app _) (g7.app _)⟩
      simp at h
      rw [if_neg h] at n1 n2
      have hnk : nulV c (t.rows.take i) = nulV c (t.rows.take (i + 1)) := by omega
      obtain ⟨B2, hB2d⟩ : ∃ B2, B2 = addV B v := ⟨_, rfl⟩
      have hB2e : B2 = nubV (nnV c (t.rows.take (i + 1))) := by rw [n2, nubV_snoc, ← hB, hB2d]
      obtain ⟨A2, hA2⟩ : ∃ A2, A2 = numV c (t.rows.take (i + 1)) := ⟨_, rfl⟩
      simp [e1, e2, e4, e5, e8, hlt, hcl]
      refine condK_of (fun h1 => ?_) (fun h1 => ?_)
      · simp at h1
        rw [if_pos h1, ← hA2] at n3
        cases o6 with
        | none =>
          obtain ⟨z0, zx⟩ := g6
          rw [avs_eq_nil] at z0
          subst z0
          have ex : (e 6).ex = .sl .exact [] := by rcases zx with h | h <;> rw [h] <;> rfl
          simp [e1, e2, e4, e5, e8, hlt, hcl, ex]
          have fb : (J ++ [HO.box [.int .i64 v.k, .int .i64 v.i, .str v.s], HO.spare 1 1])[J.length]? = some (.box [.int .i64 v.k, .int .i64 v.i, .str v.s]) := by simp
          have q6 : Gq 3 1 (J ++ [HO.box [.int .i64 v.k, .int .i64 v.i, .str v.s], HO.spare 1 1]) (AV.sl (.tok (J.length + 1 + 3)) [.int .i64 v.i]) (ints' A2) (some (J.length + 1)) := by rw [n3]; exact ⟨rfl, by simp⟩
          have q7 : Gq 3 3 (J ++ [HO.box [.int .i64 v.k, .int .i64 v.i, .str v.s], HO.spare 1 1]) (e 7) (vals' B) o7 := g7.app _
          obtain ⟨J1, hJ1⟩ : ∃ J1, J1 = J ++ [HO.box [.int .i64 v.k, .int .i64 v.i, .str v.s], HO.spare 1 1] := ⟨_, rfl⟩
          rw [← hJ1] at fb q6 q7 ⊢
          refine vc_loop (fun j : Nat => B.length - j) (fun j e' H => e' 1 = .int .i64 c ∧ e' 2 = .ptr 0 0 ∧ e' 4 = .ptr 1 0 ∧ e' 5 = .ptr 2 0 ∧ e' 6 = (AV.sl (.tok (J.length + 1 + 3)) [.int .i64 v.i]) ∧ e' 7 = .sl own7 (vals' B) ∧ e' 8 = .int .i64 i ∧ e' 9 = .ptr (J.length + 1 + 1 + 1) 0 ∧ e' 10 = .bool (anyV (B.take j) v) ∧ e' 11 = .int .i64 j ∧ j ≤ B.length ∧ H = .box t.cs :: .box c4 :: C2 0 (nulV c (t.rows.take i)) (.sl .exact []) :: J1) 0 ?_ ?_
          · simp [e1, e2, e4, e5, e8, ho7, anyV]
          rw [ho7] at q7
          rintro j e' H' ⟨f1, f2, f4, f5, f6, f7, f8, f9, f10, f11, hj, rfl⟩
          by_cases hjt : j < B.length
          · have ew2 := wrap_next hjt (by omega)
            have ks := T_rsame B[j] v
            have an := anyV_next (v := v) hjt
            simp [f1, f2, f4, f5, f6, f7, f8, f9, f10, f11, hjt, fb]
            refine GTK.callW (fun _ => ⟨ks, Dws.self (by simp)⟩) ?_
            cases ha : anyV (B.take j) v with
            | true =>
              rw [ha, Bool.true_or] at an
              simp [f1, f2, f4, f5, f6, f7, f8, f9, f10, f11, hjt, fb, ha]
              exact ⟨j + 1, by omega, by rw [an], ew2, by omega⟩
            | false =>
              rw [ha, Bool.false_or] at an
              simp [f1, f2, f4, f5, f6, f7, f8, f9, f10, f11, hjt, fb, ha]
              refine ⟨j + 1, by omega, ?_, ew2, by omega⟩
              rw [an]
              simp
          have hjl : j = B.length := by omega
          subst hjl
          rw [List.take_length] at f10
          cases ha : anyV B v with
          | true =>
            have hB2 : B2 = B := by rw [hB2d]; unfold addV; rw [if_pos (anyV_mem.1 ha)]
            rw [ha] at f10
            simp [f1, f2, f4, f5, f6, f7, f8, f9, f10, f11, fb]
            exact ⟨i + 1, by omega, ew, by omega, RC.mk hc4 hnk hA2 (hB2.symm.trans hB2e) q6 q7⟩
          | false =>
            have hB2 : B2 = B ++ [v] := by
              rw [hB2d]; unfold addV; rw [if_neg (fun h => by rw [anyV_mem.2 h] at ha; cases ha)]
            rw [ha] at f10
            cases o7 with
            | none =>
              obtain ⟨z0, zx⟩ := q7
              rw [avs_eq_nil] at z0
              subst z0
              have ex : (AV.sl own7 (vals' [])).ex = .sl .exact [] := by rcases zx with h | h <;> rw [h] <;> rfl
              simp only [avs_nil] at ex f7
              simp [f1, f2, f4, f5, f6, f7, f8, f9, f10, f11, fb, ex]
              refine ⟨i + 1, by omega, ew, by omega, RC.mk hc4 hnk hA2 hB2e (q6.app _) (o7 := some J1.length) ?_⟩
              rw [hB2]
              exact ⟨rfl, by simp⟩
            | some w =>
              obtain ⟨hzo, hw⟩ := q7
              injection hzo with hzo _
              subst hzo
              have hwl := (List.getElem?_eq_some_iff.1 hw).1
              simp only [avs_length] at hw
              have d6 := Gq.ne q6 (show Gq 3 3 J1 (.sl (.tok (w + 3)) (vals' B)) (vals' B) (some w) from ⟨rfl, by simpa using hw⟩) (by omega) w rfl
              simp [f1, f2, f4, f5, f6, f7, f8, f9, f10, f11, fb, hw]
              refine ⟨⟨by omega, by omega⟩, i + 1, by omega, ew, by omega, RC.mk hc4 hnk hA2 hB2e (q6.set d6 _) (o7 := some w) ?_⟩
              rw [hB2]
              exact ⟨by simp, by rw [List.getElem?_set_self hwl]; simp⟩
        | some u =>
          obtain ⟨e6, hu⟩ := g6
          have hul := (List.getElem?_eq_some_iff.1 hu).1
          simp only [avs_length] at hu
          have hu' : ∀ Y : List HO, (J ++ Y)[u]? = some (.spare A.length 1) := fun Y => getElem?_app hu
          have d7 := Gq.ne g7 (show Gq 3 1 J (.sl (.tok (u + 3)) (ints' A)) (ints' A) (some u) from ⟨rfl, by simpa using hu⟩) (by omega) u rfl
          simp [e1, e2, e4, e5, e6, e8, hlt, hcl, hu']
          refine ⟨⟨by omega, by omega⟩, ?_⟩
          have fb : ((J ++ [HO.box [.int .i64 v.k, .int .i64 v.i, .str v.s]]).set u (HO.spare (A.length + 1) 1))[J.length]? = some (.box [.int .i64 v.k, .int .i64 v.i, .str v.s]) := by rw [List.getElem?_set_ne (by omega)]; simp
          have q6 : Gq 3 1 ((J ++ [HO.box [.int .i64 v.k, .int .i64 v.i, .str v.s]]).set u (HO.spare (A.length + 1) 1)) (AV.sl (.tok (u + 3)) (avs (AV.int .i64) (A ++ [v.i]))) (ints' A2) (some u) := by rw [n3]; exact ⟨rfl, by rw [List.getElem?_set_self (by simp; omega)]; simp⟩
          have q7 : Gq 3 3 ((J ++ [HO.box [.int .i64 v.k, .int .i64 v.i, .str v.s]]).set u (HO.spare (A.length + 1) 1)) (e 7) (vals' B) o7 := (g7.app _).set d7 _
          obtain ⟨J1, hJ1⟩ : ∃ J1, J1 = (J ++ [HO.box [.int .i64 v.k, .int .i64 v.i, .str v.s]]).set u (HO.spare (A.length + 1) 1) := ⟨_, rfl⟩
          rw [← hJ1] at fb q6 q7 ⊢
          refine vc_loop (fun j : Nat => B.length - j) (fun j e' H => e' 1 = .int .i64 c ∧ e' 2 = .ptr 0 0 ∧ e' 4 = .ptr 1 0 ∧ e' 5 = .ptr 2 0 ∧ e' 6 = (AV.sl (.tok (u + 3)) (avs (AV.int .i64) (A ++ [v.i]))) ∧ e' 7 = .sl own7 (vals' B) ∧ e' 8 = .int .i64 i ∧ e' 9 = .ptr (J.length + 1 + 1 + 1) 0 ∧ e' 10 = .bool (anyV (B.take j) v) ∧ e' 11 = .int .i64 j ∧ j ≤ B.length ∧ H = .box t.cs :: .box c4 :: C2 0 (nulV c (t.rows.take i)) (.sl .exact []) :: J1) 0 ?_ ?_
          · simp [e1, e2, e4, e5, e8, ho7, anyV]
          rw [ho7] at q7
          rintro j e' H' ⟨f1, f2, f4, f5, f6, f7, f8, f9, f10, f11, hj, rfl⟩
          by_cases hjt : j < B.length
          · have ew2 := wrap_next hjt (by omega)
            have ks := T_rsame B[j] v
            have an := anyV_next (v := v) hjt
            simp [f1, f2, f4, f5, f6, f7, f8, f9, f10, f11, hjt, fb]
            refine GTK.callW (fun _ => ⟨ks, Dws.self (by simp)⟩) ?_
            cases ha : anyV (B.take j) v with
            | true =>
              rw [ha, Bool.true_or] at an
              simp [f1, f2, f4, f5, f6, f7, f8, f9, f10, f11, hjt, fb, ha]
              exact ⟨j + 1, by omega, by rw [an], ew2, by omega⟩
            | false =>
              rw [ha, Bool.false_or] at an
              simp [f1, f2, f4, f5, f6, f7, f8, f9, f10, f11, hjt, fb, ha]
              refine ⟨j + 1, by omega, ?_, ew2, by omega⟩
              rw [an]
              simp
          have hjl : j = B.length := by omega
          subst hjl
          rw [List.take_length] at f10
          cases ha : anyV B v with
          | true =>
            have hB2 : B2 = B := by rw [hB2d]; unfold addV; rw [if_pos (anyV_mem.1 ha)]
            rw [ha] at f10
            simp [f1, f2, f4, f5, f6, f7, f8, f9, f10, f11, fb]
            exact ⟨i + 1, by omega, ew, by omega, RC.mk hc4 hnk hA2 (hB2.symm.trans hB2e) q6 q7⟩
          | false =>
            have hB2 : B2 = B ++ [v] := by
              rw [hB2d]; unfold addV; rw [if_neg (fun h => by rw [anyV_mem.2 h] at ha; cases ha)]
            rw [ha] at f10
            cases o7 with
            | none =>
              obtain ⟨z0, zx⟩ := q7
              rw [avs_eq_nil] at z0
              subst z0
              have ex : (AV.sl own7 (vals' [])).ex = .sl .exact [] := by rcases zx with h | h <;> rw [h] <;> rfl
              simp only [avs_nil] at ex f7
              simp [f1, f2, f4, f5, f6, f7, f8, f9, f10, f11, fb, ex]
              refine ⟨i + 1, by omega, ew, by omega, RC.mk hc4 hnk hA2 hB2e (q6.app _) (o7 := some J1.length) ?_⟩
              rw [hB2]
              exact ⟨rfl, by simp⟩
            | some w =>
              obtain ⟨hzo, hw⟩ := q7
              injection hzo with hzo _
              subst hzo
              have hwl := (List.getElem?_eq_some_iff.1 hw).1
              simp only [avs_length] at hw
              have d6 := Gq.ne q6 (show Gq 3 3 J1 (.sl (.tok (w + 3)) (vals' B)) (vals' B) (some w) from ⟨rfl, by simpa using hw⟩) (by omega) w rfl
              simp [f1, f2, f4, f5, f6, f7, f8, f9, f10, f11, fb, hw]
              refine ⟨⟨by omega, by omega⟩, i + 1, by omega, ew, by omega, RC.mk hc4 hnk hA2 hB2e (q6.set d6 _) (o7 := some w) ?_⟩
              rw [hB2]
              exact ⟨by simp, by rw [List.getElem?_set_self hwl]; simp⟩
      · simp at h1
        rw [if_neg h1, List.append_nil, ← hA2] at n3
        simp [e1, e2, e4, e5, e8, hlt, hcl]
        have fb : (J ++ [HO.box [.int .i64 v.k, .int .i64 v.i, .str v.s]])[J.length]? = some (.box [.int .i64 v.k, .int .i64 v.i, .str v.s]) := by simp
        have q6 : Gq 3 1 (J ++ [HO.box [.int .i64 v.k, .int .i64 v.i, .str v.s]]) (e 6) (ints' A2) o6 := by rw [n3]; exact g6.app _
        have q7 : Gq 3 3 (J ++ [HO.box [.int .i64 v.k, .int .i64 v.i, .str v.s]]) (e 7) (vals' B) o7 := g7.app _
        obtain ⟨J1, hJ1⟩ : ∃ J1, J1 = J ++ [HO.box [.int .i64 v.k, .int .i64 v.i, .str v.s]] := ⟨_, rfl⟩
        rw [← hJ1] at fb q6 q7 ⊢
        refine vc_loop (fun j : Nat => B.length - j) (fun j e' H => e' 1 = .int .i64 c ∧ e' 2 = .ptr 0 0 ∧ e' 4 = .ptr 1 0 ∧ e' 5 = .ptr 2 0 ∧ e' 6 = (e 6) ∧ e' 7 = .sl own7 (vals' B) ∧ e' 8 = .int .i64 i ∧ e' 9 = .ptr (J.length + 1 + 1 + 1) 0 ∧ e' 10 = .bool (anyV (B.take j) v) ∧ e' 11 = .int .i64 j ∧ j ≤ B.length ∧ H = .box t.cs :: .box c4 :: C2 0 (nulV c (t.rows.take i)) (.sl .exact []) :: J1) 0 ?_ ?_
        · simp [e1, e2, e4, e5, e8, ho7, anyV]
        rw [ho7] at q7
        rintro j e' H' ⟨f1, f2, f4, f5, f6, f7, f8, f9, f10, f11, hj, rfl⟩
        by_cases hjt : j < B.length
        · have ew2 := wrap_next hjt (by omega)
          have ks := T_rsame B[j] v
          have an := anyV_next (v := v) hjt
          simp [f1, f2, f4, f5, f6, f7, f8, f9, f10, f11, hjt, fb]
          refine GTK.callW (fun _ => ⟨ks, Dws.self (by simp)⟩) ?_
          cases ha : anyV (B.take j) v with
          | true =>
            rw [ha, Bool.true_or] at an
            simp [f1, f2, f4, f5, f6, f7, f8, f9, f10, f11, hjt, fb, ha]
            exact ⟨j + 1, by omega, by rw [an], ew2, by omega⟩
          | false =>
            rw [ha, Bool.false_or] at an
            simp [f1, f2, f4, f5, f6, f7, f8, f9, f10, f11, hjt, fb, ha]
            refine ⟨j + 1, by omega, ?_, ew2, by omega⟩
            rw [an]
            simp
        have hjl : j = B.length := by omega
        subst hjl
        rw [List.take_length] at f10
        cases ha : anyV B v with
        | true =>
          have hB2 : B2 = B := by rw [hB2d]; unfold addV; rw [if_pos (anyV_mem.1 ha)]
          rw [ha] at f10
          simp [f1, f2, f4, f5, f6, f7, f8, f9, f10, f11, fb]
          exact ⟨i + 1, by omega, ew, by omega, RC.mk hc4 hnk hA2 (hB2.symm.trans hB2e) q6 q7⟩
        | false =>
          have hB2 : B2 = B ++ [v] := by
            rw [hB2d]; unfold addV; rw [if_neg (fun h => by rw [anyV_mem.2 h] at ha; cases ha)]
          rw [ha] at f10
          cases o7 with
          | none =>
            obtain ⟨z0, zx⟩ := q7
            rw [avs_eq_nil] at z0
            subst z0
            have ex : (AV.sl own7 (vals' [])).ex = .sl .exact [] := by rcases zx with h | h <;> rw [h] <;> rfl
            simp only [avs_nil] at ex f7
            simp [f1, f2, f4, f5, f6, f7, f8, f9, f10, f11, fb, ex]
            refine ⟨i + 1, by omega, ew, by omega, RC.mk hc4 hnk hA2 hB2e (q6.app _) (o7 := some J1.length) ?_⟩
            rw [hB2]
            exact ⟨rfl, by simp⟩
          | some w =>
            obtain ⟨hzo, hw⟩ := q7
            injection hzo with hzo _
            subst hzo
            have hwl := (List.getElem?_eq_some_iff.1 hw).1
            simp only [avs_length] at hw
            have d6 := Gq.ne q6 (show Gq 3 3 J1 (.sl (.tok (w + 3)) (vals' B)) (vals' B) (some w) from ⟨rfl, by simpa using hw⟩) (by omega) w rfl
            simp [f1, f2, f4, f5, f6, f7, f8, f9, f10, f11, fb, hw]
            refine ⟨⟨by omega, by omega⟩, i + 1, by omega, ew, by omega, RC.mk hc4 hnk hA2 hB2e (q6.set d6 _) (o7 := some w) ?_⟩
            rw [hB2]
            exact ⟨by simp, by rw [List.getElem?_set_self hwl]; simp⟩
    · have hv' : v = zW := by rw [hv]; unfold vAt; rw [dif_neg hcl]
      have h : v.k = 0 := by rw [hv']; rfl
      rw [if_pos h] at n1 n2
      rw [if_neg (by omega), List.append_nil] at n3
      rw [List.append_nil] at n2
      simp [e1, e2, e4, e5, e8, hlt, hcl, wn]
      exact ⟨i + 1, by omega, ew, by omega, RC.mk hc4 n1.symm n3.symm (by rw [n2]; exact hB) (g6.app _) (g7.app _)⟩
  · have : i = t.rows.length := by omega
    subst this
    rw [List.take_length] at g6 g7 ⊢
    obtain ⟨own6, ho6⟩ := g6.own
    obtain ⟨own7, ho7⟩ := g7.own
    have hml := numV_len c t.rows
    have km := T_rmarks (numV c t.rows) (by omega)
    match c4, hc4 with
    | [u0, u1, u2], _ =>
    simp [e1, e2, e4, e5, e8, ho6, ho7]
    refine TS.callW km (.cons (.sl (Dws.self (by simp))) .nil) ?_
    simp [e1, e2, e4, e5, e8, ho6, ho7]
    exact .agg (.cons (Frz.of_cl2 (by simp [colT])) (.cons (Frz.of_cl2 (by simp [colT])) (.cons (Frz.slN (f := AV.int .i64)) .nil)))
end Go.Proofs.Ytcjfjoilgnlemaa.PL
