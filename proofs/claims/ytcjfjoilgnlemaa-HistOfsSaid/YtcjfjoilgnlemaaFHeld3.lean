/- What is said of tables: as it may be. -/
import Derived.Test.YtcjfjoilgnlemaaFHeld2
namespace Go.Proofs.Ytcjfjoilgnlemaa.PL
open Go.Proofs
set_option linter.unusedVariables false
set_option linter.unusedSimpArgs false
def heldC (rows : Int) (x : CSt) : CSt := ⟨nearF x.unl (rows - nearF x.nul rows), nearF x.nul rows, sortI (x.marks.take 9)⟩
def heldK (s : Sta) (k : Nat) : List CSt := (List.range k).map fun c : Nat => heldC (cutF s.rows) (colI s c)
def heldF (s : Sta) (cols : Int) : Sta := ⟨cutF s.rows, heldK s (nearF cols 16).toNat⟩
theorem heldK_next (s : Sta) (k : Nat) : heldK s (k + 1) = heldK s k ++ [heldC (cutF s.rows) (colI s k)] := by simp [heldK, List.range_succ]
theorem heldK_len (s : Sta) (k : Nat) : (heldK s k).length = k := by simp [heldK]
theorem nearF_in {n h : Int} (hh : 0 ≤ h) : 0 ≤ nearF n h ∧ nearF n h ≤ h := by unfold nearF; omega
theorem cutF_in (n : Int) : 0 ≤ cutF n ∧ cutF n ≤ 4611686018427387904 := by unfold cutF; omega
theorem near16 (cols : Int) : ((nearF cols 16).toNat : Int) = nearF cols 16 ∧ (nearF cols 16).toNat ≤ 16 := by
  have := nearF_in (n := cols) (h := 16) (by omega)
  omega
/-- one column as it stands in memory -/
def pcA (p : AV × CSt) : AV := .agg [.int .i64 p.2.unl, .int .i64 p.2.nul, p.1]
/-- marks that are a part of a row -/
def MP (H : List HO) (y : AV) (ms : List Int) : Prop := (ms = [] ∧ ∃ own, y = .sl own []) ∨ ∃ k zs, y = .mv k zs.length 1 0 ms.length ∧ H[k]? = some (.row zs.length 1 (ints' zs)) ∧ zs.take ms.length = ms
theorem MP.frz {H : List HO} {y : AV} {ms : List Int} (h : MP H y ms) : Frz H y (.sl .no (ints' ms)) := by
  rcases h with ⟨rfl, own, rfl⟩ | ⟨k, zs, rfl, h, ht⟩
  · exact Frz.slN (f := AV.int .i64) (l := [])
  · refine .mv h ?_ (by simp) (fun y hy => by obtain ⟨a, _, rfl⟩ := mem_avs.1 hy; rfl)
    have : ((ints' zs).drop (0 * 1)).take (ms.length * 1) = ints' ms := by
      simp only [Nat.zero_mul, List.drop_zero, Nat.mul_one]
      rw [show (ints' zs).take ms.length = ints' (zs.take ms.length) by simp [avs], ht]
    rw [this]
    simp
    exact FrzC.refl fun x hx => by obtain ⟨a, _, rfl⟩ := mem_avs.1 hx; simp
theorem MP.keep {H H' : List HO} {y : AV} {ms : List Int} (h : MP H y ms) (hk : ∀ (k n : Nat) (cs : List AV), H[k]? = some (HO.row n 1 cs) → H'[k]? = some (HO.row n 1 cs)) : MP H' y ms := by
  rcases h with h | ⟨k, zs, h1, h2, h3⟩
  · exact .inl h
  · exact .inr ⟨k, zs, h1, hk _ _ _ h2, h3⟩
theorem pcs_frz {H : List HO} : ∀ {L : List (AV × CSt)}, (∀ p, p ∈ L → MP H p.1 p.2.marks) → FrzC H ((L.map pcA).flatMap AV.cells) ((csts (L.map Prod.snd)).flatMap AV.cells)
  | [], _ => .nil
  | p :: L, h => .cons (Frz.of_cl2 (by simp)) (.cons (Frz.of_cl2 (by simp)) (.cons (h p (List.mem_cons_self ..)).frz (pcs_frz fun q hq => h q (List.mem_cons_of_mem _ hq))))
abbrev zS : List AV := [.int .i64 0, .sl .exact []]
/-- some columns done -/
def HSt (s : Sta) (k : Nat) (H : List HO) : Prop := H[0]? = some (.box s.cs) ∧ (∃ c1, c1.length = 2 ∧ H[1]? = some (.box c1)) ∧ ∃ (L : List (AV × CSt)) (x : AV), H[2]? = some (.box [.int .i64 (cutF s.rows), x]) ∧ L.map Prod.snd = heldK s k ∧ (∀ p, p ∈ L → MP H p.1 p.2.marks) ∧ ((L = [] ∧ (x = .sl .nil [] ∨ x = .sl .exact [])) ∨ ∃ t, x = .sl (.tok t) (L.map pcA) ∧ H[t]? = some (.spare L.length 3))
theorem colI_ok {s : Sta} (hs : OkS s) (c : Int) : (colI s c).marks.length ≤ 1000000 := by
  unfold colI
  split
  · cases h : s.cols[c.toNat]? with
    | none => simp [zC]
    | some x => exact hs.ms x (List.mem_of_getElem? h)
  · simp [zC]
theorem HSt.step {s : Sta} {i : Nat} {H H' : List HO} {c1 : List AV} (hc1 : c1.length = 2) {L : List (AV × CSt)} (hL : L.map Prod.snd = heldK s i) (hm : ∀ p, p ∈ L → MP H p.1 p.2.marks) {y x' : AV} (h0' : H'[0]? = some (.box s.cs)) (h1' : H'[1]? = some (.box c1)) (h2' : H'[2]? = some (.box [.int .i64 (cutF s.rows), x'])) (hk : ∀ (k n : Nat) (cs : List AV), H[k]? = some (HO.row n 1 cs) → H'[k]? = some (HO.row n 1 cs)) (hy : MP H' y (sortI ((colI s i).marks.take 9))) (hx' : ∃ t, x' = .sl (.tok t) (L.map pcA ++ [.agg [.int .i64 (heldC (cutF s.rows) (colI s i)).unl, .int .i64 (heldC (cutF s.rows) (colI s i)).nul, y]]) ∧ H'[t]? = some (.spare (L.length + 1) 3)) : HSt s (i + 1) H' := by
  obtain ⟨t, hx1, hx2⟩ := hx'
  refine ⟨h0', ⟨c1, hc1, h1'⟩, L ++ [(y, heldC (cutF s.rows) (colI s i))], x', h2', by rw [List.map_append, hL, heldK_next]; rfl, fun p hp => ?_, .inr ⟨t, ?_, ?_⟩⟩
  · rcases List.mem_append.1 hp with h | h
    · exact (hm p h).keep hk
    · rw [List.mem_singleton] at h
      subst h
      exact hy
  · rw [hx1, List.map_append]; rfl
  · rw [hx2]; simp
set_option maxRecDepth 4000 in
set_option maxHeartbeats 2000000 in
theorem T_held (s : Sta) (cols : Int) (hs : OkS s) : T Try.prog 17 [s.av, .int .i64 cols] (heldF s cols).av := by
  have hc := cutF_in s.rows
  obtain ⟨hn1, hn2⟩ := near16 cols
  have kn := T_near cols 16
  rw [← hn1] at kn
  unfold heldF
  obtain ⟨n, hn⟩ : ∃ n, n = (nearF cols 16).toNat := ⟨_, rfl⟩
  rw [← hn] at hn2 kn ⊢
  refine T.introF (TS.body mix Try.func17 (by kernel_rfl) rfl (by kernel_rfl) (by simp) ?_)
  simp
  refine TS.callW (T_scut s.rows) (Dws.self (by simp)) ?_
  simp
  refine TS.callW kn (Dws.self (by simp)) ?_
  simp
  refine vc_loop (fun i : Nat => n - i) (fun i e H => e 2 = .ptr 0 0 ∧ e 4 = .ptr 1 0 ∧ e 5 = .ptr 2 0 ∧ e 13 = .int .i64 n ∧ e 14 = .int .i64 i ∧ i ≤ n ∧ HSt s i H) 0 ?_ ?_
  · simp
    exact ⟨rfl, ⟨_, rfl, rfl⟩, [], _, rfl, rfl, fun p hp => (nomatch hp), .inl ⟨rfl, .inr rfl⟩⟩
  rintro i e H ⟨e2, e4, e5, e13, e14, hi, h0, ⟨c1, hc1, h1⟩, L, x, h2, hL, hm, hg⟩
  by_cases hlt : i < n
  · have ew := wrap_next hlt (by omega)
    have kcol := S_hcol H s i hs
    simp [e2, e4, e5, e13, e14, hlt, h0]
    refine kcol.mono ?_
    rintro r H' ⟨y, J, rfl, rfl, hy⟩
    obtain ⟨cl, hcl⟩ : ∃ cl, cl = colI s i := ⟨_, rfl⟩
    rw [← hcl] at hy ⊢
    have g0 : ∀ Y : List HO, (H ++ J ++ Y)[0]? = some (.box s.cs) := fun Y => by rw [List.append_assoc]; exact getElem?_app h0
    have g2 : ∀ Y : List HO, (H ++ J ++ Y)[2]? = some (.box [.int .i64 (cutF s.rows), x]) := fun Y => by rw [List.append_assoc]; exact getElem?_app h2
    obtain ⟨H1, hH1⟩ : ∃ H1, H1 = H ++ J := ⟨_, rfl⟩
    rw [← hH1] at g0 g2 hy ⊢
    have h1l : H.length ≤ H1.length := by rw [hH1]; simp
    have h12 := (List.getElem?_eq_some_iff.1 h2).1
    simp [e2, e4, e5, e13, e14, hlt, g2]
    refine TS.callW (T_near cl.nul (cutF s.rows)) (Dws.self (by simp)) ?_
    have hnn := nearF_in (n := cl.nul) hc.1
    have hw : IntKind.i64.wrap (cutF s.rows - nearF cl.nul (cutF s.rows)) = cutF s.rows - nearF cl.nul (cutF s.rows) := wrap_i64 (by omega) (by omega)
    simp [e2, e4, e5, e13, e14, hlt, g2, hw]
    refine TS.callW (T_near cl.unl (cutF s.rows - nearF cl.nul (cutF s.rows))) (Dws.self (by simp)) ?_
    have h1t : H1[1]? = some (.box c1) := by rw [hH1]; exact getElem?_app h1
    have h0t : H1[0]? = some (.box s.cs) := by rw [hH1]; exact getElem?_app h0
    have hrt : ∀ (k n : Nat) (cs : List AV), H[k]? = some (HO.row n 1 cs) → H1[k]? = some (HO.row n 1 cs) := fun k n cs h => by rw [hH1]; exact getElem?_app h
    have hr2 : ∀ (k n : Nat) (cs : List AV), H[k]? = some (HO.row n 1 cs) → k ≠ 2 := fun k n cs h => by rintro rfl; rw [h2] at h; cases h
    have hun : (heldC (cutF s.rows) cl).unl = nearF cl.unl (cutF s.rows - nearF cl.nul (cutF s.rows)) := rfl
    have hnu : (heldC (cutF s.rows) cl).nul = nearF cl.nul (cutF s.rows) := rfl
    rcases hy with ⟨hm0, rfl⟩ | ⟨hmp, k, hk, rfl, hkr⟩
    · simp [e2, e4, e5, e13, e14, hlt, g2, hw]
      refine TS.pt S_sortNone ?_
      have hmp0 : ∀ (H' : List HO) (own : Own), MP H' (.sl own []) (sortI ((colI s i).marks.take 9)) := fun H' own => .inl ⟨by rw [← hcl, hm0]; simp [sortI], own, rfl⟩
      rcases hg with ⟨rfl, hx⟩ | ⟨t, rfl, ht⟩
      · have ex : x.ex = .sl .exact [] := by rcases hx with h | h <;> rw [h] <;> rfl
        simp [e2, e4, e5, e13, e14, hlt, g2, hw, ex]
        refine ⟨i + 1, by omega, ew, by omega, HSt.step hc1 hL hm (y := .sl (sliceOwn Own.exact 0 0 0 (some (.int .i64 0)) none) []) ?_ ?_ (List.getElem?_set_self (by simp; omega)) (fun k n cs h => ?_) (hmp0 _ _) ⟨H1.length + 1, ?_, ?_⟩⟩
        · rw [List.getElem?_set_ne (by omega), getElem?_app h0t]
        · rw [List.getElem?_set_ne (by omega), getElem?_app h1t]
        · rw [List.getElem?_set_ne (Ne.symm (hr2 k n cs h)), getElem?_app (hrt k n cs h)]
        · rw [← hcl, hun, hnu]; rfl
        · rw [List.getElem?_set_ne (by omega), List.getElem?_append_right (by omega)]; simp
      · have htl := (List.getElem?_eq_some_iff.1 ht).1
        have ht2 : t ≠ 2 := by rintro rfl; rw [h2] at ht; cases ht
        have ht0 : t ≠ 0 := by rintro rfl; rw [h0] at ht; cases ht
        have ht1 : t ≠ 1 := by rintro rfl; rw [h1] at ht; cases ht
        have htt : ∀ Y : List HO, (H1 ++ Y)[t]? = some (.spare L.length 3) := fun Y => getElem?_app (by rw [hH1]; exact getElem?_app ht)
        have hts : ∀ (Y : List HO) (B : HO), ((H1 ++ Y).set t B)[2]? = some (.box [.int .i64 (cutF s.rows), .sl (.tok t) (L.map pcA)]) := fun Y B => by rw [List.getElem?_set_ne ht2]; exact g2 Y
        have hLl : L.length = i := by rw [← heldK_len s i, ← hL]; simp
        simp [e2, e4, e5, e13, e14, hlt, g2, hw, htt, hts]
        refine ⟨⟨⟨by omega, by omega⟩, fun a x x1 _ h2 => by subst h2; rfl⟩, i + 1, by omega, ew, by omega, HSt.step hc1 hL hm (y := .sl (sliceOwn Own.exact 0 0 0 (some (.int .i64 0)) none) []) ?_ ?_ (List.getElem?_set_self (by simp; omega)) (fun k n cs h => ?_) (hmp0 _ _) ⟨t, ?_, ?_⟩⟩
        · rw [List.getElem?_set_ne (by omega), List.getElem?_set_ne ht0, getElem?_app h0t]
        · rw [List.getElem?_set_ne (by omega), List.getElem?_set_ne ht1, getElem?_app h1t]
        · rw [List.getElem?_set_ne (Ne.symm (hr2 k n cs h)), List.getElem?_set_ne (by rintro rfl; rw [ht] at h; cases h), getElem?_app (hrt k n cs h)]
        · rw [← hcl, hun, hnu]
        · rw [List.getElem?_set_ne (Ne.symm ht2), List.getElem?_set_self (by simp; omega)]
    · have hkl := (List.getElem?_eq_some_iff.1 hkr).1
      have hmn : (if (9 : Int) < cl.marks.length then (9 : Int) else cl.marks.length) = ((min cl.marks.length 9 : Nat) : Int) := by split <;> omega
      have hkr' : ∀ Y : List HO, (H1 ++ Y)[k]? = some (.row cl.marks.length 1 (ints' cl.marks)) := fun Y => getElem?_app hkr
      have hkn : k ≠ 2 ∧ k ≠ 0 ∧ k ≠ 1 := by omega
      have hml : cl.marks.length ≤ 1000000 := by rw [hcl]; exact colI_ok hs i
      have gB : ∀ (B : HO) (Y : List HO) (R : HO), ((H1 ++ B :: Y).set k R)[H1.length]? = some B := fun B Y R => by rw [List.getElem?_set_ne (by omega), List.getElem?_append_right (by omega)]; simp
      have g2k : ∀ (Y : List HO) (R : HO), ((H1 ++ Y).set k R)[2]? = some (.box [.int .i64 (cutF s.rows), x]) := fun Y R => by rw [List.getElem?_set_ne hkn.1]; exact g2 Y
      simp [e2, e4, e5, e13, e14, hlt, g2, hw, hmn]
      refine ⟨by omega, TS.pt (S_sortP (zs := cl.marks) rfl (Nat.min_le_left ..) (hkr' _) (by omega) (by omega)) ?_⟩
      obtain ⟨ZS, hZS⟩ : ∃ ZS, ZS = sortI (cl.marks.take (min cl.marks.length 9)) ++ cl.marks.drop (min cl.marks.length 9) := ⟨_, rfl⟩
      have htk : cl.marks.take (min cl.marks.length 9) = cl.marks.take 9 := by
        rcases Nat.le_total cl.marks.length 9 with h | h
        · rw [Nat.min_eq_left h, List.take_of_length_le (Nat.le_refl _), List.take_of_length_le h]
        · rw [Nat.min_eq_right h]
      have hsl : (sortI (cl.marks.take 9)).length = min cl.marks.length 9 := by rw [sortI_len, List.length_take]; omega
      have hZl : ZS.length = cl.marks.length := by rw [hZS, htk, List.length_append, hsl, List.length_drop]; omega
      have hZt : ZS.take (min cl.marks.length 9) = sortI (cl.marks.take 9) := by rw [hZS, htk, ← hsl, List.take_left']; rfl
      rw [← hZS]
      have hmpk : ∀ H' : List HO, H'[k]? = some (.row cl.marks.length 1 (ints' ZS)) → MP H' (.mv k cl.marks.length 1 0 (min cl.marks.length 9)) (sortI ((colI s i).marks.take 9)) := fun H' h => .inr ⟨k, ZS, by rw [← hcl, hsl, hZl], by rw [h, hZl], by rw [← hcl, hsl, hZt]⟩
      clear hZS htk
      obtain ⟨B, hB⟩ : ∃ B : HO, B = .box [.int .i64 (nearF cl.unl (cutF s.rows - nearF cl.nul (cutF s.rows))), .int .i64 (nearF cl.nul (cutF s.rows)), .mv k cl.marks.length 1 0 (min cl.marks.length 9)] := ⟨_, rfl⟩
      obtain ⟨H2, hH2⟩ : ∃ H2, H2 = (H1 ++ [B]).set k (.row cl.marks.length 1 (ints' ZS)) := ⟨_, rfl⟩
      have hl2 : H2.length = H1.length + 1 := by rw [hH2]; simp
      have fk : H2[k]? = some (.row cl.marks.length 1 (ints' ZS)) := by rw [hH2]; exact List.getElem?_set_self (by simp; omega)
      have fB : H2[H1.length]? = some B := by rw [hH2, List.getElem?_set_ne (by omega), List.getElem?_append_right (by omega)]; simp
      have fo : ∀ j a, H[j]? = some a → j ≠ k → H2[j]? = some a := fun j a h hj => by rw [hH2, List.getElem?_set_ne (Ne.symm hj)]; exact getElem?_app (by rw [hH1]; exact getElem?_app h)
      have f0 := fo 0 _ h0 (by omega)
      have f1 := fo 1 _ h1 (by omega)
      have f2 := fo 2 _ h2 (by omega)
      have fr : ∀ (k' n : Nat) (cs : List AV), H[k']? = some (HO.row n 1 cs) → H2[k']? = some (HO.row n 1 cs) := fun k' n cs h => fo k' _ h (by have := (List.getElem?_eq_some_iff.1 h).1; omega)
      rw [← hB, ← hH2]
      subst hB
      clear hH2
      have f2' : ∀ Y : List HO, (H2 ++ Y)[2]? = some (.box [.int .i64 (cutF s.rows), x]) := fun Y => getElem?_app f2
      have fB' := fun Y : List HO => getElem?_app (l := Y) fB
      rcases hg with ⟨rfl, hx⟩ | ⟨t, rfl, ht⟩
      · have ex : x.ex = .sl .exact [] := by rcases hx with h | h <;> rw [h] <;> rfl
        simp [e2, e4, e5, e13, e14, hlt, f2, f2', fB, fB', hw, hmn, ex]
        refine ⟨i + 1, by omega, ew, by omega, HSt.step hc1 hL hm (y := .mv k cl.marks.length 1 0 (min cl.marks.length 9)) ?_ ?_ (List.getElem?_set_self (by simp; omega)) (fun k n cs h => ?_) (hmpk _ ?_) ⟨H2.length, ?_, ?_⟩⟩
        · rw [List.getElem?_set_ne (by omega), getElem?_app f0]
        · rw [List.getElem?_set_ne (by omega), getElem?_app f1]
        · rw [List.getElem?_set_ne (Ne.symm (hr2 k n cs h)), getElem?_app (fr k n cs h)]
        · rw [List.getElem?_set_ne (by omega), getElem?_app fk]
        · rw [← hcl, hun, hnu]; rfl
        · rw [List.getElem?_set_ne (by omega), List.getElem?_append_right (by omega)]; simp
      · have htl := (List.getElem?_eq_some_iff.1 ht).1
        have ht2 : t ≠ 2 := by rintro rfl; rw [h2] at ht; cases ht
        have ht0 : t ≠ 0 := by rintro rfl; rw [h0] at ht; cases ht
        have ht1 : t ≠ 1 := by rintro rfl; rw [h1] at ht; cases ht
        have htk : t ≠ k := by omega
        have ft : H2[t]? = some (.spare L.length 3) := fo t _ ht htk
        have fts : ∀ R : HO, (H2.set t R)[2]? = some (.box [.int .i64 (cutF s.rows), .sl (.tok t) (L.map pcA)]) := fun R => by rw [List.getElem?_set_ne ht2]; exact f2
        have hLl : L.length = i := by rw [← heldK_len s i, ← hL]; simp
        simp [e2, e4, e5, e13, e14, hlt, f2, f2', fB, fB', hw, hmn, ft, fts]
        refine ⟨⟨⟨by omega, by omega⟩, fun a x x1 _ h2 => by subst h2; rfl⟩, i + 1, by omega, ew, by omega, HSt.step hc1 hL hm (y := .mv k cl.marks.length 1 0 (min cl.marks.length 9)) ?_ ?_ (List.getElem?_set_self (by simp; omega)) (fun k n cs h => ?_) (hmpk _ ?_) ⟨t, ?_, ?_⟩⟩
        · rw [List.getElem?_set_ne (by omega), List.getElem?_set_ne ht0, f0]
        · rw [List.getElem?_set_ne (by omega), List.getElem?_set_ne ht1, f1]
        · rw [List.getElem?_set_ne (Ne.symm (hr2 k n cs h)), List.getElem?_set_ne (by rintro rfl; rw [ht] at h; cases h), fr k n cs h]
        · rw [List.getElem?_set_ne (by omega), List.getElem?_set_ne htk, fk]
        · rw [← hcl, hun, hnu]
        · rw [List.getElem?_set_ne (Ne.symm ht2), List.getElem?_set_self (by omega)]
  · have : i = n := by omega
    subst this
    have h1l := (List.getElem?_eq_some_iff.1 h1).1
    have m1 : ∀ B : HO, (H.set 1 B)[1]? = some B := fun B => List.getElem?_set_self h1l
    match c1, hc1 with
    | [u0, u1], _ =>
    simp [e2, e4, e5, e13, e14, h1, h2, m1]
    have hxo : ∃ own, x = .sl own (L.map pcA) := by
      rcases hg with ⟨rfl, h | h⟩ | ⟨t, h, _⟩
      · exact ⟨_, h⟩
      · exact ⟨_, h⟩
      · exact ⟨_, h⟩
    obtain ⟨own, rfl⟩ := hxo
    rw [← hL]
    refine .agg (.cons (Frz.of_cl2 (by simp)) (.cons (.sl (pcs_frz fun p hp => (hm p hp).keep fun k n cs hk => ?_) (by simp) ?_) .nil))
    · rw [List.getElem?_set_ne (by rintro rfl; rw [h1] at hk; cases hk)]
      exact hk
    · intro m hm' y hy
      obtain ⟨a, ha, rfl⟩ := mem_avs.1 hy
      obtain ⟨p, hp, _⟩ := List.mem_map.1 ha
      have := hm' (pcA p) (List.mem_map.2 ⟨p, hp, rfl⟩)
      rw [← this]
      rfl
end Go.Proofs.Ytcjfjoilgnlemaa.PL
