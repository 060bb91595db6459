/- The hypergraph of a query. -/
import Derived.Test.YtahpoodcmeoabaaFNorm6
import Derived.Test.YtahpoodcmeoabaaFTokN
import Derived.Test.YtahpoodcmeoabaaFGraph6
namespace Go.Proofs.Ytahpoodcmeoabaa.PL
open Go.Proofs
set_option linter.unusedVariables false
set_option linter.unusedSimpArgs false
structure GSt (H : List HO) (a b C R r : Nat) (rc : List Nat) (L : List (Own × List Nat)) : Prop where
  ca : H[a]? = some (.box [.ptr C 0])
  cb : H[b]? = some (.box [.mv r L.length 1 0 L.length])
  row : H[r]? = some (.row L.length 1 (avs (oslA natA) L))
  tk : TokN H L
  uf : UfRef H C R 128 rc
  ne : C ≠ R
  rR : r ≠ R
  hl : L.length ≤ 1000
  hs : ∀ p, p ∈ L → p.2.length ≤ 1000000
/-- the class of a column -/
def clC (rc : List Nat) (i : Int) : Int := if inR rc i = true then (rc.getD i.toNat 0 : Int) else -1
def adL (rc : List Nat) (M : List (List Nat)) (t c : Int) : List (List Nat) := if 0 ≤ t ∧ t < M.length ∧ 0 ≤ clC rc (colN t c) then M.set t.toNat (M.getD t.toNat [] ++ [(clC rc (colN t c)).toNat]) else M
def Kept (H H' : List HO) : Prop := ∀ (j : Nat) (cs : List AV), H[j]? = some (.box cs) → H'[j]? = some (.box cs)
theorem UfRef.atR {H : List HO} {C R n : Nat} {r : List Nat} (h : UfRef H C R n r) (hn : 0 < n) : (∃ cs, H[R]? = some (.row n 1 cs)) ∧ ∃ cs, H[C]? = some (.box cs) := by
  obtain ⟨up, h1, h2, h3, h4⟩ := h
  rcases h1 with ⟨h1, _⟩ | ⟨h1, hC, hR⟩
  · subst h1; simp at h3; omega
  · rw [h3] at hR; exact ⟨⟨_, hR⟩, ⟨_, hC⟩⟩
/-- after Find -/
theorem GSt.find {H : List HO} {a b C R r : Nat} {rc : List Nat} {L : List (Own × List Nat)} (h : GSt H a b C R r rc L) (i : Int) : ∃ k H1, TS Try.prog 110 [.ptr C 0, .int .i64 i] H (pt (.int .i64 (clC rc i)) H1) ∧ k = clC rc i ∧ GSt H1 a b C R r rc L ∧ Kept H H1 := by
  obtain ⟨⟨csR, hR⟩, csC, hC⟩ := h.uf.atR (by omega)
  obtain ⟨up, h1, h2, h3, h4⟩ := h.uf
  have hf := S_findI H C R up i h1 h2 h.ne (by omega)
  rw [fv_of h4 i] at hf
  have ho := fH_oth (H := H) (R := R) (up := up) (i := i)
  have hb : ∀ (j : Nat) (cs : List AV), H[j]? = some (.box cs) → j ≠ R := by rintro j cs hj rfl; rw [hR] at hj; cases hj
  refine ⟨_, _, hf, rfl, ⟨?_, ?_, ?_, ?_, ?_, h.ne, h.rR, h.hl, h.hs⟩, fun j cs hj => by rw [ho.2 j (hb j cs hj)]; exact hj⟩
  · rw [ho.2 a (hb _ _ h.ca)]; exact h.ca
  · rw [ho.2 b (hb _ _ h.cb)]; exact h.cb
  · rw [ho.2 r h.rR]; exact h.row
  · refine ⟨fun j t c e => ?_, h.tk.inj, h.tk.own⟩
    have := h.tk.at' j t c e
    rw [ho.2 t (by rintro rfl; rw [hR] at this; cases this)]
    exact this
  · have k1 := fu_ok h2 i
    exact ⟨fu up i, fu_at h1 h2 h.ne i, k1.2.1, by rw [k1.1, h3], ⟨by rw [k1.1]; exact h4.1, fun k hk => by rw [k1.2.2]; exact h4.2 k (by rw [k1.1] at hk; exact hk)⟩⟩
theorem Kept.trans {H H' H'' : List HO} (h : Kept H H') (k : Kept H' H'') : Kept H H'' := fun j cs e => k j cs (h j cs e)
theorem GSt.upd {H H' : List HO} {a b C R r : Nat} {rc : List Nat} {L L' : List (Own × List Nat)} (h : GSt H a b C R r rc L) (hl : L'.length = L.length) (hrow : H'[r]? = some (.row L.length 1 (avs (oslA natA) L'))) (ht : TokN H' L') (hs : ∀ p, p ∈ L' → p.2.length ≤ 1000000)
    (ho : ∀ j x, H[j]? = some x → j ≠ r → (∀ n, x ≠ .spare n 1) → H'[j]? = some x) : GSt H' a b C R r rc L' ∧ Kept H H' := by
  have hk : Kept H H' := fun j cs e => ho j _ e (by rintro rfl; rw [h.row] at e; cases e) (fun n => by simp)
  obtain ⟨⟨csR, hR⟩, csC, hC⟩ := h.uf.atR (by omega)
  refine ⟨⟨hk _ _ h.ca, by rw [hl]; exact hk _ _ h.cb, by rw [hl]; exact hrow, ht, ?_, h.ne, h.rR, by rw [hl]; exact h.hl, hs⟩, hk⟩
  obtain ⟨up, h1, h2⟩ := h.uf
  refine ⟨up, ?_, h2⟩
  rcases h1 with ⟨h1, own, h3, h4⟩ | ⟨h1, h3, h4⟩
  · exact .inl ⟨h1, own, h3, hk _ _ h4⟩
  · exact .inr ⟨h1, hk _ _ h3, ho R _ h4 (Ne.symm h.rR) (fun n => by simp)⟩
theorem GSt.app {H : List HO} {a b C R r : Nat} {rc : List Nat} {L : List (Own × List Nat)} (h : GSt H a b C R r rc L) (Y : List HO) : GSt (H ++ Y) a b C R r rc L :=
  ⟨getElem?_app h.ca, getElem?_app h.cb, getElem?_app h.row, h.tk.app, h.uf.app, h.ne, h.rR, h.hl, h.hs⟩
set_option maxRecDepth 4000 in
set_option maxHeartbeats 2000000 in
theorem S_of1 {H : List HO} {a b C R r : Nat} {rc : List Nat} {L : List (Own × List Nat)} (t c : Int) (h : GSt H a b C R r rc L) (hs : ∀ p, p ∈ L → p.2.length < 1000000) : TS Try.prog 109 [.int .i64 t, .int .i64 c, .ptr a 0, .ptr b 0] H (fun x H' => ∃ L', GSt H' a b C R r rc L' ∧ L'.map Prod.snd = adL rc (L.map Prod.snd) t c ∧ Kept H H') := by
  obtain ⟨_, H1, hf, rfl, g1, kp⟩ := h.find (colN t c)
  have ca := h.ca
  clear h
  refine TS.bodyM [100000, 2000004, 1000400, 100002, 1020802, 1020805, 1021000, 1021002, 1021005] mix Try.func109 (by kernel_rfl) rfl (by kernel_rfl) (by simp) ?_
  simp [ca]
  refine TDK.callW (T_ncolumn _ _) (Dws.self (by simp)) ?_
  simp [ca]
  refine TWK.call hf ?_
  have cb := g1.cb
  have hrow := g1.row
  simp [cb]
  refine ⟨fun x y => ⟨x, y⟩, condK_of (fun h => ?_) (fun h => ?_)⟩
  · simp at h
    obtain ⟨⟨h0, h1⟩, h2⟩ := h
    obtain ⟨κ, hκ⟩ : ∃ κ : Nat, clC rc (colN t c) = κ := ⟨(clC rc (colN t c)).toNat, by omega⟩
    have hadl : adL rc (L.map Prod.snd) t c = (L.map Prod.snd).set t.toNat ((L.map Prod.snd).getD t.toNat [] ++ [κ]) := by
      unfold adL
      rw [if_pos ⟨h0, by simpa using h1, h2⟩, hκ]
      rfl
    obtain ⟨j, rfl⟩ : ∃ j : Nat, t = j := ⟨t.toNat, by omega⟩
    have hjl : j < L.length := by omega
    obtain ⟨o, l, hLj⟩ : ∃ o l, L[j]? = some (o, l) := ⟨L[j].1, L[j].2, by simp [hjl]⟩
    have hLj' : ∀ q : j < L.length, L[j] = (o, l) := fun q => by rw [List.getElem?_eq_getElem q] at hLj; exact Option.some.inj hLj
    have hll : l.length < 1000000 := hs (o, l) (List.mem_of_getElem? hLj)
    have hgd : (L.map Prod.snd).getD ((j : Int)).toNat [] = l := by simp [hLj]
    rw [hgd] at hadl
    have hmem : ∀ ow, ∀ p, p ∈ L.set j (ow, l ++ [κ]) → p.2.length ≤ 1000000 := fun ow p hp => by
      rcases List.mem_or_eq_of_mem_set hp with hp | rfl
      · exact g1.hs p hp
      · simp; omega
    have hrM := (List.getElem?_eq_some_iff.1 hrow).1
    rcases g1.tk.own j o _ hLj with ⟨u, rfl⟩ | rfl
    · have hsp := g1.tk.at' j u _ hLj
      have huM := (List.getElem?_eq_some_iff.1 hsp).1
      have hur : ¬ u = r := by rintro rfl; rw [hsp] at hrow; cases hrow
      have hr1 : ∀ y, (H1.set u y)[r]? = some (.row L.length 1 (avs (oslA natA) L)) := fun y => by rw [List.getElem?_set_ne hur]; exact hrow
      have hub : ¬ u = b := by rintro rfl; rw [hsp] at cb; cases cb
      have hb1 : ∀ y, (H1.set u y)[b]? = some (.box [.mv r L.length 1 0 L.length]) := fun y => by rw [List.getElem?_set_ne hub]; exact cb
      simp [cb, hκ, hrow, hjl, hLj', hsp, hr1, hb1, oslA]
      rw [avs_putN hjl]
      have hup := g1.upd (H' := (H1.set u (HO.spare (l.length + 1) 1)).set r (HO.row L.length 1 (avs (oslA natA) (L.set j (Own.tok u, l ++ [κ]))))) (L' := L.set j (Own.tok u, l ++ [κ])) (by simp) (by rw [List.getElem?_set_self (by simpa using hrM)]) (TokN.other (TokN.grow g1.tk hLj (by simp)) (hr1 _) (fun n => by simp)) (hmem _) fun q x hx hq hn => by
        rw [List.getElem?_set_ne (fun e => hq e.symm), List.getElem?_set_ne (fun e => by subst e; rw [hsp] at hx; exact hn _ (Option.some.inj hx).symm)]
        exact hx
      exact ⟨⟨by omega, by omega⟩, by omega, _, hup.1, by rw [hadl, List.map_set]; simp, kp.trans hup.2⟩
    · have hr1 : ∀ y, (H1 ++ [y])[r]? = some (.row L.length 1 (avs (oslA natA) L)) := fun y => by rw [List.getElem?_append_left hrM]; exact hrow
      have hb1 : ∀ y, (H1 ++ [y])[b]? = some (.box [.mv r L.length 1 0 L.length]) := fun y => by rw [List.getElem?_append_left (List.getElem?_eq_some_iff.1 cb).1]; exact cb
      simp [cb, hκ, hrow, hjl, hLj', hr1, hb1, oslA]
      rw [avs_putN hjl]
      have hup := g1.upd (H' := (H1 ++ [HO.spare (l.length + 1) 1]).set r (HO.row L.length 1 (avs (oslA natA) (L.set j (Own.tok H1.length, l ++ [κ]))))) (L' := L.set j (Own.tok H1.length, l ++ [κ])) (by simp) (by rw [List.getElem?_set_self (by simp; omega)]) (TokN.other (TokN.fresh g1.tk rfl hjl (by simp)) (hr1 _) (fun n => by simp)) (hmem _) fun q x hx hq hn => by
        rw [List.getElem?_set_ne (fun e => hq e.symm), List.getElem?_append_left (List.getElem?_eq_some_iff.1 hx).1]
        exact hx
      exact ⟨⟨by omega, by omega⟩, by omega, _, hup.1, by rw [hadl, List.map_set]; simp, kp.trans hup.2⟩
  · simp at h
    have hadl : adL rc (L.map Prod.snd) t c = L.map Prod.snd := by
      unfold adL
      rw [if_neg]
      rintro ⟨x, y, z⟩
      have := h x (by simpa using y)
      omega
    simp
    exact ⟨L, g1, hadl.symm, kp⟩
theorem S_gsets {H : List HO} {r : Nat} {L : List (Own × List Nat)} (hr : H[r]? = some (.row L.length 1 (avs (oslA natA) L))) (hn : L.length ≤ 1000) (hs : ∀ p, p ∈ L → p.2.length ≤ 1000000) : TS Try.prog 111 [.mv r L.length 1 0 L.length] H (fun x _ => ∃ own, x = .sl own (lists' (L.map fun p => setI (intsN p.2)))) := by
  refine TS.body mix Try.func111 (by kernel_rfl) rfl (by kernel_rfl) (by simp) ?_
  simp
  obtain ⟨M, hM⟩ : ∃ M, M = L.map fun p => setI (intsN p.2) := ⟨_, rfl⟩
  rw [← hM]
  have hMl : M.length = L.length := by rw [hM]; simp
  refine vc_loop (fun i : Nat => L.length - i) (fun i e H' => ∃ x, e 3 = x ∧ e 6 = .mv r L.length 1 0 L.length ∧ e 7 = .int .i64 L.length ∧ e 8 = .int .i64 i ∧ i ≤ L.length ∧ Grow1 1 H' x (lists' (M.take i)) ∧ H'[r]? = some (.row L.length 1 (avs (oslA natA) L))) 0 ?_ ?_
  · refine ⟨.sl .nil [], ?_⟩
    simp [Grow1, hr]
  rintro i e H' ⟨x, e3, e6, e7, e8, hi, hg, hrow⟩
  by_cases hlt : i < L.length
  · have ew := wrap_next hlt (by omega)
    obtain ⟨o, l, hLi⟩ : ∃ o l, L[i] = (o, l) := ⟨L[i].1, L[i].2, rfl⟩
    have hll : l.length ≤ 1000000 := by have := hs _ (List.getElem_mem hlt); rw [hLi] at this; exact this
    have k1 := T_set (intsN l) (by simp [intsN]; omega)
    rw [← nats_ints] at k1
    have hnx : M.take (i + 1) = M.take i ++ [setI (intsN l)] := by rw [take_next (by omega)]; simp [hM, hLi]
    have hln : (M.take i).length = i := by simp; omega
    have hri := (List.getElem?_eq_some_iff.1 hrow).1
    simp [e3, e6, e7, e8, hlt, hrow, hLi, oslA]
    refine TS.callW k1 (.cons (.sl (Dws.self (by simp))) .nil) ?_
    rcases hg with ⟨ge, rfl⟩ | ⟨t, rfl, ht⟩
    · rw [avs_eq_nil] at ge
      rw [ge] at hnx
      simp [e3, e6, e7, e8, hlt]
      exact ⟨i + 1, by omega, ew, by omega, .inr ⟨H'.length, by rw [hnx]; rfl, by rw [hnx]; simp⟩, by rw [List.getElem?_append_left hri]; exact hrow⟩
    · have htl := (List.getElem?_eq_some_iff.1 ht).1
      have htr : ¬ t = r := by rintro rfl; rw [ht] at hrow; cases hrow
      have ht' : H'[t]? = some (.spare i 1) := by rw [avs_length, hln] at ht; exact ht
      have hmi : min i M.length = i := by omega
      simp [e3, e6, e7, e8, hlt, ht', hmi]
      refine ⟨⟨by omega, by omega⟩, i + 1, by omega, ew, by omega, .inr ⟨t, by rw [hnx], ?_⟩, by rw [List.getElem?_set_ne htr]; exact hrow⟩
      rw [List.getElem?_set_self htl, hnx]
      simp [hmi]
  · have : i = M.length := by omega
    subst this
    rw [List.take_length] at hg
    obtain ⟨own, rfl⟩ := hg.own
    have hn' : ¬ M.length < L.length := hlt
    simp [e3, e6, e7, e8, hn', hMl]
/-- the tables' classes, after some edges -/
def grN (rc : List Nat) (M : List (List Nat)) : List Edg → List (List Nat)
  | [] => M
  | e :: l => grN rc (adL rc (adL rc M e.a e.ac) e.b e.bc) l
theorem grN_append (rc : List Nat) : ∀ (l m : List Edg) (M : List (List Nat)), grN rc M (l ++ m) = grN rc (grN rc M l) m
  | [], _, _ => rfl
  | e :: l, m, M => by rw [List.cons_append, grN, grN, grN_append rc l m]
theorem adL_len {rc : List Nat} {M : List (List Nat)} {t c : Int} : (adL rc M t c).length = M.length := by
  unfold adL; split <;> simp
theorem adL_le {rc : List Nat} {M : List (List Nat)} {t c : Int} {k : Nat} (h : ∀ l, l ∈ M → l.length ≤ k) : ∀ l, l ∈ adL rc M t c → l.length ≤ k + 1 := by
  intro l hl
  unfold adL at hl
  split at hl
  · rename_i hc
    rcases List.mem_or_eq_of_mem_set hl with hl | rfl
    · have := h l hl; omega
    · have hm : M.getD t.toNat [] ∈ M := by
        have : t.toNat < M.length := by omega
        simp [this]
      have := h _ hm
      simp at this ⊢
      omega
  · have := h l hl; omega
theorem grN_len {rc : List Nat} : ∀ {l : List Edg} {M : List (List Nat)}, (grN rc M l).length = M.length
  | [], _ => rfl
  | e :: l, M => by rw [grN, grN_len, adL_len, adL_len]
theorem grN_le {rc : List Nat} : ∀ {l : List Edg} {M : List (List Nat)} {k : Nat}, (∀ x, x ∈ M → x.length ≤ k) → ∀ x, x ∈ grN rc M l → x.length ≤ k + 2 * l.length
  | [], _, _, h, x, hx => by have := h x hx; simp; omega
  | e :: l, M, k, h, x, hx => by
    rw [grN] at hx
    have := grN_le (adL_le (adL_le h)) x hx
    simp; omega
/-- the hypergraph of a query's conditions -/
def grOf (n : Nrm) : List (List Int) := (grN (clsE n.edges) (List.replicate n.scan.length []) n.edges).map fun l => setI (intsN l)
set_option maxRecDepth 4000 in
set_option maxHeartbeats 2000000 in
theorem T_gof (n : Nrm) (hE : n.edges.length ≤ 200000) (hS : n.scan.length ≤ 1000) : T Try.prog 40 [n.av] (.sl .no (lists' (grOf n))) := by
  have kc := S_classes [.box n.cs] n (by omega)
  refine T.introF (TS.bodyM [13] mix Try.func40 (by kernel_rfl) rfl (by kernel_rfl) (by simp) ?_)
  simp
  refine kc.mono ?_
  rintro _ H1 ⟨rfl, hu, hfr⟩
  have h0 : H1[0]? = some (.box n.cs) := by rw [hfr 0 (by simp)]; rfl
  obtain ⟨T, rfl⟩ : ∃ T, H1 = .box n.cs :: T := by
    cases H1 with
    | nil => simp at h0
    | cons x T => simp at h0; exact ⟨T, by rw [h0]⟩
  have hlt := hu.lt (by omega)
  simp only [List.length_cons, List.length_nil] at hlt hu
  have hu1 := hu.app (L := [.box [.ptr 2 0], .row n.scan.length 1 (repeatA [.sl .exact []] n.scan.length), .box [.mv (T.length + 2) n.scan.length 1 0 n.scan.length]])
  have hrep : repeatA [.sl .exact []] n.scan.length = avs (oslA natA) (List.replicate n.scan.length (Own.exact, [])) := by
    generalize n.scan.length = k
    induction k with
    | zero => rfl
    | succ k ih => simp [repeatA, List.replicate_succ, oslA] at ih ⊢; try exact ih
  rw [hrep] at hu1
  simp [hrep]
  have g0 : GSt (.box n.cs :: (T ++ [.box [.ptr 2 0], .row n.scan.length 1 (avs (oslA natA) (List.replicate n.scan.length (Own.exact, []))), .box [.mv (T.length + 2) n.scan.length 1 0 n.scan.length]])) (T.length + 1) (T.length + 3) 2 3 (T.length + 2) (clsE n.edges) (List.replicate n.scan.length (Own.exact, [])) := by
    refine ⟨?_, ?_, ?_, ?_, ?_, by omega, by omega, by simpa using hS, ?_⟩
    · simp
    · simp
    · simp
    · refine ⟨fun j t c e => ?_, fun j k t c d e _ => ?_, fun j o c e => ?_⟩
      · have := List.mem_of_getElem? e; simp at this
      · have := List.mem_of_getElem? e; simp at this
      · have := List.mem_of_getElem? e; simp at this; exact .inr this.2.1
    · simpa using hu1
    · intro p hp; simp at hp; rw [hp.2]; simp
  refine ⟨⟨by omega, by omega⟩, ?_⟩
  refine vc_loop (fun i : Nat => n.edges.length - i) (fun i e H => ∃ L, e 4 = .ptr (T.length + 3) 0 ∧ e 5 = .fn (.func 109) [] [.ptr (T.length + 1) 0, .ptr (T.length + 3) 0] ∧ e 16 = .sl .no (edgs n.edges) ∧ e 17 = .int .i64 n.edges.length ∧ e 18 = .int .i64 i ∧ i ≤ n.edges.length ∧ GSt H (T.length + 1) (T.length + 3) 2 3 (T.length + 2) (clsE n.edges) L ∧ L.map Prod.snd = grN (clsE n.edges) (List.replicate n.scan.length []) (n.edges.take i)) 0 ?_ ?_
  · refine ⟨List.replicate n.scan.length (Own.exact, []), ?_⟩
    simp
    exact ⟨g0, by simp [grN]⟩
  clear g0 hu hu1 hfr h0 hrep kc
  rintro i e H ⟨L, e4, e5, e16, e17, e18, hi, hg, hL⟩
  have hsz : ∀ p, p ∈ L → p.2.length ≤ 2 * i := fun p hp => by
    have h1 := grN_le (rc := clsE n.edges) (l := n.edges.take i) (M := List.replicate n.scan.length []) (k := 0) (fun x hx => by simp at hx; rw [hx.2]; simp) p.2 (by rw [← hL]; exact List.mem_map_of_mem hp)
    rw [List.length_take] at h1
    omega
  by_cases hlt2 : i < n.edges.length
  · have ew := wrap_next hlt2 (by omega)
    have hnx : grN (clsE n.edges) (List.replicate n.scan.length []) (n.edges.take (i + 1)) = adL (clsE n.edges) (adL (clsE n.edges) (L.map Prod.snd) n.edges[i].a n.edges[i].ac) n.edges[i].b n.edges[i].bc := by
      rw [take_next hlt2, grN_append, hL]; rfl
    simp [e4, e5, e16, e17, e18, hlt2]
    refine (S_of1 _ _ (hg.app _) (fun p hp => by have := hsz p hp; omega)).mono ?_
    rintro _ H2 ⟨L2, g2, hL2, k2⟩
    have hb2 := k2 H.length n.edges[i].cs (by simp)
    have hsz2 : ∀ p, p ∈ L2 → p.2.length ≤ 2 * i + 1 := fun p hp => by
      have h1 := List.mem_map_of_mem (f := Prod.snd) hp
      rw [hL2] at h1
      exact adL_le (k := 2 * i) (fun l hl => by obtain ⟨p, hp, rfl⟩ := List.mem_map.1 hl; exact hsz p hp) _ h1
    simp [e4, e5, e16, e17, e18, hlt2, hb2]
    refine (S_of1 _ _ g2 (fun p hp => by have := hsz2 p hp; omega)).mono ?_
    rintro _ H3 ⟨L3, g3, hL3, k3⟩
    simp [e4, e5, e16, e17, e18, hlt2]
    exact ⟨i + 1, by omega, ew, by omega, L3, g3, by rw [hnx, hL3, hL2]⟩
  · have : i = n.edges.length := by omega
    subst this
    rw [List.take_length] at hL
    have hcb := hg.cb
    have hgs := S_gsets hg.row hg.hl (fun p hp => by have := hsz p hp; omega)
    have hres : (L.map fun p => setI (intsN p.2)) = grOf n := by rw [grOf, ← hL, List.map_map]; rfl
    rw [hres] at hgs
    simp [e4, e5, e16, e17, e18, hcb]
    refine hgs.mono ?_
    rintro _ H2 ⟨own, rfl⟩
    simp
    exact Frz.slN (f := slA (AV.int .i64))
end Go.Proofs.Ytahpoodcmeoabaa.PL
