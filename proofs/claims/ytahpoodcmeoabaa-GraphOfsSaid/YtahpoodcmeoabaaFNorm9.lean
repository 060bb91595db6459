/- The hypergraph of a query: both are the same; each vertex is of two tables. -/
import Derived.Test.YtahpoodcmeoabaaFNorm7
import Derived.Test.YtahpoodcmeoabaaFNorm8
namespace Go.Proofs.Ytahpoodcmeoabaa.PL
open Go.Proofs
set_option linter.unusedVariables false
set_option linter.unusedSimpArgs false
def ad1 (rc : List Nat) (t : Int) (l : List Nat) (a c : Int) : List Nat := if a = t ∧ 0 ≤ clC rc (colN a c) then l ++ [(clC rc (colN a c)).toNat] else l
theorem clC_col {rc : List Nat} (h : rc.length = 128) (a c : Int) : clC rc (colN a c) = if 0 ≤ colN a c then (rc.getD (colN a c).toNat 0 : Int) else -1 := by
  have h1 := colN_lt a c
  unfold clC inR
  rw [h]
  by_cases h0 : 0 ≤ colN a c
  · rw [if_pos h0, if_pos (by simp; omega)]
  · rw [if_neg h0, if_neg (by simp; omega)]
theorem intsN_snoc (l : List Nat) (k : Nat) : intsN (l ++ [k]) = intsN l ++ [(k : Int)] := by simp [intsN]
theorem setI_snoc (l : List Int) (k : Int) : setI (l ++ [k]) = putI k (setI l) := by unfold setI; rw [List.foldl_append]; rfl
theorem ad1_set {rc : List Nat} (h : rc.length = 128) (t : Int) (l : List Nat) (a c : Int) : setI (intsN (ad1 rc t l a c)) = pu1 rc t (setI (intsN l)) a c := by
  have hc := clC_col h a c
  unfold ad1 pu1
  by_cases ha : a = t
  · subst ha
    by_cases h0 : 0 ≤ colN a c
    · rw [if_pos h0] at hc
      rw [hc, if_pos ⟨rfl, by omega⟩, if_pos ⟨rfl, h0⟩, intsN_snoc, setI_snoc]
      rfl
    · rw [if_neg h0] at hc
      rw [hc, if_neg fun x => absurd x.2 (by omega), if_neg fun x => h0 x.2]
  · rw [if_neg fun x => ha x.1, if_neg fun x => ha x.1]
theorem adL_get {rc : List Nat} {M : List (List Nat)} {a c : Int} {t : Nat} (ht : t < M.length) : (adL rc M a c)[t]? = some (ad1 rc t M[t] a c) := by
  unfold adL ad1
  by_cases h : 0 ≤ a ∧ a < M.length ∧ 0 ≤ clC rc (colN a c)
  · rw [if_pos h]
    by_cases ha : a = t
    · subst ha
      rw [if_pos ⟨rfl, h.2.2⟩]
      simp [ht]
    · rw [if_neg fun x => ha x.1, List.getElem?_set_ne (by omega), List.getElem?_eq_getElem ht]
  · rw [if_neg h, if_neg, List.getElem?_eq_getElem ht]
    rintro ⟨rfl, h2⟩
    exact h ⟨by omega, by omega, h2⟩
theorem grN_get {rc : List Nat} {t : Nat} : ∀ {es : List Edg} {M : List (List Nat)} (ht : t < M.length), (grN rc M es)[t]? = some (es.foldl (fun l e => ad1 rc t (ad1 rc t l e.a e.ac) e.b e.bc) M[t])
  | [], M, ht => by simp [grN, ht]
  | e :: es, M, ht => by
    have h1 : t < (adL rc M e.a e.ac).length := by rw [adL_len]; exact ht
    have h2 : t < (adL rc (adL rc M e.a e.ac) e.b e.bc).length := by rw [adL_len]; exact h1
    have g1 := adL_get (rc := rc) (a := e.a) (c := e.ac) ht
    have g2 := adL_get (rc := rc) (a := e.b) (c := e.bc) h1
    rw [List.getElem?_eq_getElem h1] at g1
    rw [List.getElem?_eq_getElem h2] at g2
    rw [grN, grN_get h2, List.foldl_cons, Option.some.inj g2, Option.some.inj g1]
theorem fold_set {rc : List Nat} (h : rc.length = 128) (t : Int) : ∀ (es : List Edg) (l : List Nat), setI (intsN (es.foldl (fun l e => ad1 rc t (ad1 rc t l e.a e.ac) e.b e.bc) l)) = es.foldl (stE rc t) (setI (intsN l))
  | [], l => rfl
  | e :: es, l => by
    rw [List.foldl_cons, List.foldl_cons, fold_set h t es, ad1_set h, ad1_set h]
    rfl
theorem gr_ro (n : Nrm) : grOf n = roOf n := by
  have hc := clsE_len n.edges
  refine List.ext_getElem? fun t => ?_
  unfold grOf roOf
  by_cases ht : t < n.scan.length
  · have h1 := grN_get (rc := clsE n.edges) (es := n.edges) (M := List.replicate n.scan.length []) (t := t) (by simpa using ht)
    rw [List.getElem?_map, h1, List.getElem?_map, List.getElem?_range ht]
    simp only [Option.map_some, List.getElem_replicate]
    rw [fold_set hc]
    rfl
  · rw [List.getElem?_eq_none (by simp [grN_len]; omega), List.getElem?_eq_none (by simp; omega)]
theorem pu1_mem {rc : List Nat} {t : Int} {l : List Int} {a c x : Int} : x ∈ pu1 rc t l a c ↔ x ∈ l ∨ (a = t ∧ 0 ≤ colN t c ∧ x = (rc.getD (colN t c).toNat 0 : Nat)) := by
  unfold pu1
  by_cases h : a = t ∧ 0 ≤ colN t c
  · rw [if_pos h, putI_mem]
    constructor
    · rintro (h1 | h1)
      · exact .inr ⟨h.1, h.2, h1⟩
      · exact .inl h1
    · rintro (h1 | ⟨_, _, h1⟩)
      · exact .inr h1
      · exact .inl h1
  · rw [if_neg h]
    constructor
    · exact .inl
    · rintro (h1 | ⟨h1, h2, _⟩)
      · exact h1
      · exact absurd ⟨h1, h2⟩ h
def hasE (rc : List Nat) (t x : Int) (e : Edg) : Prop := (e.a = t ∧ 0 ≤ colN t e.ac ∧ x = (rc.getD (colN t e.ac).toNat 0 : Nat)) ∨ (e.b = t ∧ 0 ≤ colN t e.bc ∧ x = (rc.getD (colN t e.bc).toNat 0 : Nat))
theorem fold_mem {rc : List Nat} {t x : Int} : ∀ {es : List Edg} {l : List Int}, x ∈ es.foldl (stE rc t) l ↔ x ∈ l ∨ ∃ e, e ∈ es ∧ hasE rc t x e
  | [], l => by simp
  | e :: es, l => by
    rw [List.foldl_cons, fold_mem, stE, pu1_mem, pu1_mem]
    constructor
    · rintro (((h | h) | h) | ⟨f, hf, h⟩)
      · exact .inl h
      · exact .inr ⟨e, by simp, .inl h⟩
      · exact .inr ⟨e, by simp, .inr h⟩
      · exact .inr ⟨f, by simp [hf], h⟩
    · rintro (h | ⟨f, hf, h⟩)
      · exact .inl (.inl (.inl h))
      · rcases List.mem_cons.1 hf with rfl | hf
        · rcases h with h | h
          · exact .inl (.inl (.inr h))
          · exact .inl (.inr h)
        · exact .inr ⟨f, hf, h⟩
theorem roT_mem {rc : List Nat} {t x : Int} {es : List Edg} : x ∈ roT rc t es ↔ ∃ e, e ∈ es ∧ hasE rc t x e := by
  unfold roT; rw [fold_mem]; simp
theorem two_le {α : Type} {p : α → Bool} : ∀ {l : List α} {a b : Nat} (ha : a < l.length) (hb : b < l.length), a < b → p l[a] = true → p l[b] = true → 2 ≤ (l.filter p).length
  | x :: l, 0, b + 1, _, hb, _, h1, h2 => by
    simp at h1 h2 hb
    have : l[b] ∈ l.filter p := List.mem_filter.2 ⟨List.getElem_mem hb, h2⟩
    have := List.length_pos_of_mem this
    rw [List.filter_cons, if_pos h1, List.length_cons]
    omega
  | x :: l, a + 1, b + 1, ha, hb, hab, h1, h2 => by
    simp at h1 h2 ha hb
    have := two_le ha hb (by omega) h1 h2
    rw [List.filter_cons]
    split <;> simp <;> omega
/-- an edge of the core -/
structure EdIn (k : Nat) (e : Edg) : Prop where
  ne : e.a ≠ e.b
  a0 : 0 ≤ e.a
  ak : e.a < k
  b0 : 0 ≤ e.b
  bk : e.b < k
  ca : 0 ≤ colN e.a e.ac
  cb : 0 ≤ colN e.b e.bc
theorem deg2 {n : Nrm} (hE : ∀ e, e ∈ n.edges → EdIn n.scan.length e) {v : Int} (hv : v ∈ catI (roOf n)) : 2 ≤ degI (roOf n) v := by
  unfold catI at hv
  obtain ⟨l, hl, hv⟩ := List.mem_flatMap.1 hv
  simp only [id] at hv
  obtain ⟨t, ht, rfl⟩ := List.mem_map.1 hl
  obtain ⟨e, he, hh⟩ := roT_mem.1 hv
  have h := hE e he
  have hlen : (roOf n).length = n.scan.length := by simp [roOf]
  have hget : ∀ (k : Nat) (hk : k < (roOf n).length), (roOf n)[k] = roT (clsE n.edges) k n.edges := fun k hk => by simp [roOf]
  have hin : inN (List.range 128).length (colN e.a e.ac, colN e.b e.bc) := by
    have h1 := (colN_lt e.a e.ac).2
    have h2 := (colN_lt e.b e.bc).2
    simp only [List.length_range]
    exact ⟨⟨h.ca, h1⟩, ⟨h.cb, h2⟩⟩
  have hsame := plR_resp (ps := prE n.edges) (r := List.range 128) (p := (colN e.a e.ac, colN e.b e.bc)) (List.mem_map_of_mem (f := fun e : Edg => (colN e.a e.ac, colN e.b e.bc)) he) hin
  change (clsE n.edges).getD _ 0 = (clsE n.edges).getD _ 0 at hsame
  simp only at hsame
  have hva : v = ((clsE n.edges).getD (colN e.a e.ac).toNat 0 : Nat) := by
    rcases hh with ⟨h1, _, h2⟩ | ⟨h1, _, h2⟩
    · rw [h2, ← h1]
    · rw [h2, ← h1, hsame]
  obtain ⟨A, hA⟩ : ∃ A : Nat, e.a = A := ⟨e.a.toNat, by have := h.a0; omega⟩
  obtain ⟨B, hB⟩ : ∃ B : Nat, e.b = B := ⟨e.b.toNat, by have := h.b0; omega⟩
  have hAl : A < (roOf n).length := by have := h.ak; omega
  have hBl : B < (roOf n).length := by have := h.bk; omega
  have mA : decide (v ∈ (roOf n)[A]) = true := by
    rw [decide_eq_true_eq, hget A hAl]
    exact roT_mem.2 ⟨e, he, .inl ⟨hA, by rw [← hA]; exact h.ca, by rw [← hA]; exact hva⟩⟩
  have mB : decide (v ∈ (roOf n)[B]) = true := by
    rw [decide_eq_true_eq, hget B hBl]
    exact roT_mem.2 ⟨e, he, .inr ⟨hB, by rw [← hB]; exact h.cb, by rw [← hB, hva, hsame]⟩⟩
  have hne := h.ne
  unfold degI
  rcases Nat.lt_or_ge A B with hab | hab
  · exact two_le hAl hBl hab mA mB
  · exact two_le hBl hAl (by omega) mB mA
theorem rises_bound : ∀ {l : List Int} {a b : Int}, Rises l → (∀ x, x ∈ l → a ≤ x ∧ x < b) → (l.length : Int) ≤ max (b - a) 0
  | [], a, b, _, _ => by simp; omega
  | x :: l, a, b, h, hx => by
    unfold Rises at h
    rw [List.pairwise_cons] at h
    have h1 := hx x (by simp)
    have := rises_bound (l := l) (a := x + 1) (b := b) h.2 fun y hy => ⟨by have := h.1 y hy; omega, (hx y (by simp [hy])).2⟩
    simp only [List.length_cons]
    omega
theorem ro_ok (n : Nrm) : ∀ l, l ∈ roOf n → Rises l ∧ l.length ≤ 128 := by
  intro l hl
  obtain ⟨t, ht, rfl⟩ := List.mem_map.1 hl
  have h1 := (roT_ok (rc := clsE n.edges) (t := (t : Int)) n.edges [] (by simp [Rises])).1
  change Rises (roT _ _ _) at h1
  refine ⟨h1, ?_⟩
  have := rises_bound (a := 0) (b := 128) h1 fun x hx => by
    obtain ⟨e, he, hh⟩ := roT_mem.1 hx
    have key : ∀ k : Nat, k < 128 → (clsE n.edges).getD k 0 < 128 := fun k hk => by
      have := (plR_06 (n := 128) (prE n.edges) k hk).1
      unfold clsE; omega
    rcases hh with ⟨_, h2, h3⟩ | ⟨_, h2, h3⟩
    · have := key (colN t e.ac).toNat (by have := (colN_lt t e.ac).2; omega); omega
    · have := key (colN t e.bc).toNat (by have := (colN_lt t e.bc).2; omega); omega
  omega
theorem setI_self {l : List Int} (h : Rises l) : setI l = l := rises_eq (setI_rises l) h fun x => setI_mem
theorem ro_right (n : Nrm) : rightG (roOf n) = true := by
  unfold rightG
  rw [List.all_eq_true]
  intro l hl
  simpa using setI_self (ro_ok n l hl).1
theorem isEdge_cols {e : Ex'} (h : isEdge e = true) : ∃ x y, e.l = [x, y] ∧ x.t ≠ y.t ∧ x.t ∈ usesI e ∧ y.t ∈ usesI e := by
  unfold isEdge at h
  split at h
  · rename_i x y hl
    simp at h
    obtain ⟨⟨⟨h1, h2⟩, h3⟩, h4⟩ := h
    refine ⟨x, y, hl, h4, ?_, ?_⟩
    all_goals
      unfold usesI
      rw [setI_mem, Ex'.cols_eq, if_neg (by rw [h1]; omega), hl]
      simp [Ex'.colsL, Ex'.cols_eq, h2, h3]
  · cases h
theorem normR_edges (q : Qry) : ∀ e, e ∈ (normR q).edges → e.a ≠ e.b ∧ 0 ≤ e.a ∧ e.a < coreF q.frm ∧ 0 ≤ e.b ∧ e.b < coreF q.frm := by
  intro e he
  obtain ⟨x, hx, rfl⟩ := List.mem_map.1 he
  have hw := (List.mem_filter.1 hx).2
  simp only [isWh, decide_eq_true_eq] at hw
  unfold whereE at hw
  split at hw
  · omega
  rename_i hno
  split at hw
  · omega
  split at hw
  case isFalse => omega
  rename_i hE
  obtain ⟨u, w, hl, hne, hu, hwm⟩ := isEdge_cols hE
  have key : ∀ t, t ∈ usesI x → 0 ≤ t ∧ t < coreF q.frm := fun t ht => by
    have : outI (coreF q.frm) t = false := by
      cases h : outI (coreF q.frm) t with
      | false => rfl
      | true => exact absurd (List.any_eq_true.2 ⟨t, ht, h⟩) hno
    simp [outI] at this
    omega
  have k1 := key _ hu
  have k2 := key _ hwm
  unfold asEdge
  rw [hl]
  simp only [hE, if_true]
  split
  · exact ⟨hne, k1.1, k1.2, k2.1, k2.2⟩
  · exact ⟨Ne.symm hne, k2.1, k2.2, k1.1, k1.2⟩
theorem normR_scan (q : Qry) : (normR q).scan.length = coreF q.frm := by simp [normR, scanF]
theorem muchQ_small {q : Qry} (h : muchQ q = false) : Smal q := by
  unfold muchQ at h
  simp only [Bool.or_eq_false_iff, decide_eq_false_iff_not] at h
  obtain ⟨⟨⟨⟨⟨⟨h1, h2⟩, h3⟩, h4⟩, h5⟩, h6⟩, h7⟩ := h
  refine ⟨by omega, fun f hf => ?_, by have := muchE_no h4; omega⟩
  have := List.any_eq_false.1 h7 f hf
  simp only [muchF, Bool.or_eq_true, not_or] at this
  have := muchE_no (Bool.eq_false_iff.2 this.1)
  omega
set_option maxRecDepth 4000 in
set_option maxHeartbeats 4000000 in
theorem T_GraphOfs (q : Qry) (hq : OkQ q) : T Try.prog 6 [q.av] (.bool true) := by
  have km := T_muchQ q hq
  refine T.intro (TS.body mix Try.func6 (by kernel_rfl) rfl (by kernel_rfl) (by simp) ?_)
  simp
  refine TS.callW km (Dws.self (by simp)) ?_
  cases hm : muchQ q with
  | true =>
    simp
    refine TS.callW T_live21 .nil ?_
    simp
  | false =>
    have hs := muchQ_small hm
    have kof := T_rof16 q hq hs
    have hEl : (normR q).edges.length ≤ 101000 := by
      have h1 := allF_len hs
      have h2 := List.length_filter_le (isWh (coreF q.frm) 3) (allF q)
      simp only [normR, List.length_map]
      omega
    have hSl : (normR q).scan.length ≤ 100 := by
      rw [normR_scan]
      have := coreF_le q.frm
      have := hs.frm
      omega
    have hed := normR_edges q
    rw [← normR_scan] at hed
    obtain ⟨n, hn⟩ : ∃ n, n = normR q := ⟨_, rfl⟩
    rw [← hn] at kof hEl hSl hed
    clear hn
    simp
    refine TS.callW kof (Dws.self (by simp)) ?_
    simp
    refine vc_loop (fun i : Nat => n.edges.length - i) (fun i e H => e 3 = .ptr 1 0 ∧ e 4 = .int .i64 i ∧ i ≤ n.edges.length ∧ (∀ x, x ∈ n.edges.take i → 0 ≤ colN x.a x.ac ∧ 0 ≤ colN x.b x.bc) ∧ ∃ J, H = .box q.cs :: .box n.cs :: J) 0 ?_ ?_
    · simp
    rintro i e H ⟨e3, e4, hi, hok, J, rfl⟩
    by_cases hlt : i < n.edges.length
    · have ew := wrap_next hlt (by omega)
      simp [e3, e4, hlt]
      refine TS.callW (T_rcolumn _ _) (Dws.self (by simp)) ?_
      by_cases h1 : colN n.edges[i].a n.edges[i].ac < 0
      · simp [e3, e4, hlt, h1]
        refine GTK.callW (fun h => nomatch h) (ys := []) (r := .bool true) ?_
        simp [e3, e4, hlt, h1]
        refine TS.callW T_live21 .nil ?_
        simp
      · have h1' : 0 ≤ colN n.edges[i].a n.edges[i].ac := by omega
        simp [e3, e4, hlt, h1, h1']
        refine GTK.callW (fun _ => ⟨T_rcolumn _ _, Dws.self (by simp)⟩) ?_
        by_cases h2 : colN n.edges[i].b n.edges[i].bc < 0
        · simp [e3, e4, hlt, h1, h1', h2]
          refine TS.callW T_live21 .nil ?_
          simp
        · simp [e3, e4, hlt, h1, h1', h2]
          refine ⟨i + 1, by omega, ew, by omega, fun x hx => ?_⟩
          rw [take_next hlt, List.mem_append, List.mem_singleton] at hx
          rcases hx with hx | rfl
          · exact hok x hx
          · omega
    have hie : i = n.edges.length := by omega
    subst hie
    rw [List.take_length] at hok
    have hin : ∀ x, x ∈ n.edges → EdIn n.scan.length x := fun x hx => by
      have h1 := hed x hx
      have h2 := hok x hx
      exact ⟨h1.1, h1.2.1, h1.2.2.1, h1.2.2.2.1, h1.2.2.2.2, h2.1, h2.2⟩
    have hrl : (roOf n).length = n.scan.length := by simp [roOf]
    have hro := ro_ok n
    have kg := T_gof n (by omega) (by omega)
    rw [gr_ro] at kg
    have kr := T_rof21 n (by omega) (by omega)
    have ks := T_same21 (roOf n) (roOf n) (by omega) (fun l hl => by have := (hro l hl).2; omega)
    have kri := T_gright (roOf n) (by omega) (fun l hl => by have := (hro l hl).2; omega)
    rw [ro_right] at kri
    have kv := T_vertices (roOf n) (by omega) (fun l hl => by have := (hro l hl).2; omega)
    have kd := fun v => T_degree (roOf n) v (by omega) (fun l hl => by have := (hro l hl).2; omega)
    have hd2 := fun v => deg2 hin (v := v)
    have hdl := degI_le (roOf n)
    have hvl := Nat.le_trans (setI_len (catI (roOf n))) (catI_le (fun l hl => by have := (hro l hl).2; omega))
    have hmem : ∀ v, v ∈ setI (catI (roOf n)) → 2 ≤ degI (roOf n) v := fun v hv => hd2 v (setI_mem.1 hv)
    clear hd2 hin hok hed hro kof
    obtain ⟨h, hh⟩ : ∃ h, h = roOf n := ⟨_, rfl⟩
    rw [← hh] at kg kr ks kri kv kd hdl hvl hmem hrl
    obtain ⟨V, hV⟩ : ∃ V, V = setI (catI h) := ⟨_, rfl⟩
    rw [← hV] at kv hvl hmem
    simp at ks
    simp [e3, e4]
    refine TS.callW kg (Dws.self (by simp)) ?_
    simp [e3, e4]
    refine TS.callW kr (Dws.self (by simp)) ?_
    simp [e3, e4]
    refine TS.callW ks (Dws.self (by simp)) ?_
    simp [e3, e4]
    refine GTK.callW (fun _ => ⟨kri, Dws.self (by simp)⟩) ?_
    simp [e3, e4]
    refine TS.callW kv (Dws.self (by simp)) ?_
    simp [e3, e4]
    refine vc_loop (fun i : Nat => V.length - i) (fun i e H => e 6 = .sl .no (lists' h) ∧ e 7 = .sl .no (ints' V) ∧ e 8 = .int .i64 i ∧ i ≤ V.length) 0 ?_ ?_
    · simp
    clear e3 e4 e J hlt hi
    rintro i e H ⟨e6, e7, e8, hi⟩
    by_cases hlt : i < V.length
    · have ew := wrap_next hlt (by omega)
      have h2 := hmem V[i] (List.getElem_mem hlt)
      have h3 := hdl V[i]
      have h4 : ¬ ((degI h V[i] : Nat) : Int) < 2 := by omega
      simp [e6, e7, e8, hlt]
      refine TS.callW (kd V[i]) (Dws.self (by simp)) ?_
      simp [e6, e7, e8, hlt, h4]
      exact ⟨i + 1, by omega, ew, by omega⟩
    · have : i = V.length := by omega
      subst this
      simp [e6, e7, e8]
      refine TS.callW T_live21 .nil ?_
      simp
theorem S_GraphOfs {xs : List AV} (h : ShA Try.prog [46] xs) : T Try.prog 6 xs (.bool true) := by
  obtain ⟨y, r, rfl, h0, h⟩ := h.cons_of ag_46
  obtain rfl := h.nil_of
  obtain ⟨q, rfl, hq⟩ := Qry_in h0
  exact T_GraphOfs q hq
end Go.Proofs.Ytahpoodcmeoabaa.PL
