/- Columns that must be the same, and all conditions again: the statement. -/
import Derived.Test.YtcjfjoilgnlemaaLay2
import Derived.Test.YtcjfjoilgnlemaaFGraph4
import Derived.Test.YtcjfjoilgnlemaaFNorm19
namespace Go.Proofs.Ytcjfjoilgnlemaa.PL
open Go.Proofs
set_option linter.unusedVariables false
set_option linter.unusedSimpArgs false
def Gh.addT0 (Γ : Gh) (i b cap : Nat) : Gh := { Γ with T := fun j m => if j = i ∧ m = 0 then some (b, cap) else Γ.T j m }
theorem S_growNone (H : List HO) : TS Try.prog 112 [.sl .nil [], .int .i64 0] H (pt (.sl .nil []) H) := by
  intro w0 Γ w vs hr hv
  cases hv with
  | cons h t =>
  cases t with
  | cons h2 t =>
  cases t
  cases h2
  cases h with
  | sl hn hs h1 h hi ho hc => cases ho.2
  | sl0 ho =>
    obtain ⟨rfl, rfl⟩ := ho
    refine .inl ⟨⟨_, Try.func112, by kernel_rfl, by kernel_rfl⟩, (Any8.slices_Grow_room Try.laysGrowE none 0 0 0 w (by omega) (by omega) (by omega) (by omega)).mono ?_⟩
    rintro e' w' ⟨rfl, rfl⟩
    exact ⟨Γ, _, .sl .nil [], H, rfl, Gh.Le.refl _, .sl0 ⟨rfl, rfl⟩, hr, rfl, rfl⟩
theorem S_growE (H : List HO) (n : Nat) (hn : 0 < n) (hb : n ≤ 1000000) : TS Try.prog 112 [.sl .nil [], .int .i64 n] H (pt (.sl (.tok H.length) []) (H ++ [.spare 0 9])) := by
  intro w0 Γ w vs hr hv
  cases hv with
  | cons h t =>
  cases t with
  | cons h2 t =>
  cases t
  cases h2
  cases h with
  | sl hn hs h1 h hi ho hc => cases ho.2
  | sl0 ho =>
    obtain ⟨rfl, rfl⟩ := ho
    have hsome : (Try.prog.info? 53).isSome = true := by kernel_rfl
    have hi0 : Try.prog.info? 53 = some ((Try.prog.info? 53).get hsome) := (Option.some_get _).symm
    have hsz : ((Try.prog.info? 53).get hsome).size = 9 := by kernel_rfl
    have hby : ((Try.prog.info? 53).get hsome).bytes = 112 := by kernel_rfl
    have hzs : (((Try.prog.info? 53).get hsome).zero).isSome = true := by kernel_rfl
    have hzr : ((Try.prog.info? 53).get hsome).zero = some ((((Try.prog.info? 53).get hsome).zero).get hzs) := (Option.some_get _).symm
    have hzc : ((((Try.prog.info? 53).get hsome).zero).get hzs).cells.size = 9 := by kernel_rfl
    generalize (((Try.prog.info? 53).get hsome).zero).get hzs = z at *
    generalize (Try.prog.info? 53).get hsome = i0 at *
    refine .inl ⟨⟨_, Try.func112, by kernel_rfl, by kernel_rfl⟩, (Any8.slices_Grow_grow Try.laysGrowE i0 z hi0 hzr (by omega) none 0 0 n [] w (by omega) (by omega) (by rw [hby]; omega) (by omega) (by simp) (fun _ => rfl) (fun a h => by cases h)).mono ?_⟩
    rintro e' w' ⟨rfl, rfl⟩
    have hG1 := grownCap_ge w (0 + n) 0 53
    have hG2 := grownCap_le_maxLen w (0 + n) 0 53 (by unfold maxLen; omega)
    obtain ⟨G, hG⟩ : ∃ G, G = grownCap w (0 + n) 0 53 := ⟨_, rfl⟩
    rw [show Try.laysGrowE_ren.t 25 = 53 from rfl]
    rw [← hG] at hG1 hG2 ⊢
    have le : Gh.Le Γ (Γ.addT0 H.length w.heap.size G) := ⟨fun _ _ _ h => h, fun _ _ h => h, fun t m p h => by
      simp only [Gh.addT0]
      split
      · rename_i hh
        have := (hr.fresh H.length (Nat.le_refl _)).2 m
        rw [hh.1, this] at h
        cases h
      · exact h⟩
    refine ⟨Γ.addT0 H.length w.heap.size G, _, .sl (.tok H.length) [], H ++ [.spare 0 9], rfl, le, .sl0 ⟨w.heap.size, rfl, by simp [Gh.addT0]⟩, ?_, rfl, rfl⟩
    refine hr.push (.spare 0 9) w.heap.size (((Go.RowKit.Below.refl _ _).drew).alloc (Nat.le_refl _) _) le (Nat.le_refl _) (fun _ => ?_) (fun c o v h => .inl h) (fun _ _ => rfl) (fun k hk => by funext m; simp [Gh.addT0, hk]) rfl
    refine ⟨⟨G, _, _, by simp [Gh.addT0], heap_new w.drew _, ?_, hG2, by omega⟩, fun o _ => hr.noI o, fun m hm => ?_⟩
    · simp [Builtin.zeroCells]
      rw [hzc]
      omega
    · have : ¬ m = 0 := by omega
      simp [Gh.addT0, this]
      exact (hr.fresh H.length (Nat.le_refl _)).2 m
/-- all numbers of some lists -/
def catE (h : List (List Ex')) : List Ex' := h.flatMap id
theorem catE_next {h : List (List Ex')} {i : Nat} (hi : i < h.length) : catE (h.take (i + 1)) = catE (h.take i) ++ h[i] := by
  unfold catE
  rw [take_next hi, List.flatMap_append]
  simp
theorem catE_le {h : List (List Ex')} (hs : ∀ l, l ∈ h → l.length ≤ 1000) : (catE h).length ≤ 1000 * h.length := by
  induction h with
  | nil => simp [catE]
  | cons a h ih =>
    have h1 := hs a List.mem_cons_self
    have h2 := ih fun l hl => hs l (List.mem_cons_of_mem _ hl)
    have : catE (a :: h) = a ++ catE h := by simp [catE]
    rw [this, List.length_append, List.length_cons]
    omega
def GrowN (sz : Nat) (H : List HO) (x : AV) (xs : List AV) : Prop := (xs = [] ∧ (x = .sl .nil [] ∨ x = .sl .exact [])) ∨ ∃ t, x = .sl (.tok t) xs ∧ H[t]? = some (.spare xs.length sz)
theorem GrowN.own {sz : Nat} {H : List HO} {x : AV} {xs : List AV} (h : GrowN sz H x xs) : ∃ own, x = .sl own xs := by
  rcases h with ⟨rfl, h | h⟩ | ⟨t, h, _⟩
  · exact ⟨_, h⟩
  · exact ⟨_, h⟩
  · exact ⟨_, h⟩
theorem T_concatE (h : List (List Ex')) (hn : h.length ≤ 1000) (hs : ∀ l, l ∈ h → l.length ≤ 1000) : T Try.prog 88 [.sl .no (avs (slA Ex'.av) h)] (.sl .no (exprs (catE h))) := by
  have hcl := catE_le hs
  refine T.introF (TS.body mix Try.func88 (by kernel_rfl) rfl (by kernel_rfl) (by simp) ?_)
  simp
  refine vc_loop (fun i : Nat => h.length - i) (fun i e H => e 0 = .sl .no (avs (slA Ex'.av) h) ∧ e 3 = .int .i64 (catE (h.take i)).length ∧ e 9 = .sl .no (avs (slA Ex'.av) h) ∧ e 10 = .int .i64 h.length ∧ e 11 = .int .i64 i ∧ i ≤ h.length ∧ H = []) 0 ?_ ?_
  · simp [catE]
  rintro i e H ⟨e0, e3, e9, e10, e11, hi, rfl⟩
  have hci : (catE (h.take i)).length ≤ 1000 * i := by
    have := catE_le (h := h.take i) fun l hl => hs l (List.mem_of_mem_take hl)
    rw [List.length_take] at this
    omega
  by_cases hlt : i < h.length
  · have ew := wrap_next hlt (by omega)
    have hli := hs _ (List.getElem_mem hlt)
    have ec : IntKind.i64.wrap (((catE (h.take i)).length : Int) + (h[i]).length) = ((catE (h.take (i + 1))).length : Int) := by
      rw [wrap_i64 (by omega) (by omega), catE_next hlt, List.length_append]
      simp
    have hneg : ¬ (((catE (h.take (i + 1))).length : Int) < 0) := by omega
    simp [e0, e3, e9, e10, e11, hlt, ec, hneg]
    exact ⟨i + 1, by omega, rfl, ew, by omega⟩
  have hil : i = h.length := by omega
  subst hil
  rw [List.take_length] at e3
  have hgo : ∀ (x : AV) (H0 : List HO), GrowN 9 H0 x (exprs []) → TS Try.prog 112 [.sl .nil [], .int .i64 (catE h).length] [] (pt x H0) → True := fun _ _ _ _ => trivial
  obtain ⟨x, H0, hg, hG⟩ : ∃ (x : AV) (H0 : List HO), GrowN 9 H0 x (exprs []) ∧ TS Try.prog 112 [.sl .nil [], .int .i64 (catE h).length] [] (pt x H0) := by
    by_cases h0 : (catE h).length = 0
    · rw [h0]; exact ⟨_, _, .inl ⟨rfl, .inl rfl⟩, S_growNone []⟩
    · exact ⟨_, _, .inr ⟨0, rfl, rfl⟩, S_growE [] _ (by omega) (by omega)⟩
  simp [e0, e3, e9, e10, e11]
  refine TS.pt hG ?_
  simp [e0, e3, e9, e10, e11]
  clear e0 e3 e9 e10 e11 hi hlt hG hci hgo
  refine vc_loop (fun i : Nat => h.length - i) (fun i e H => ∃ x, e 6 = x ∧ e 25 = .sl .no (avs (slA Ex'.av) h) ∧ e 26 = .int .i64 h.length ∧ e 27 = .int .i64 i ∧ i ≤ h.length ∧ GrowN 9 H x (exprs (catE (h.take i)))) 0 ?_ ?_
  · refine ⟨x, ?_⟩
    simp [catE]
    exact hg
  clear hg x H0
  rintro i e H ⟨x, e6, e25, e26, e27, hi, hg⟩
  have hci : (catE (h.take i)).length ≤ 1000 * i := by
    have := catE_le (h := h.take i) fun l hl => hs l (List.mem_of_mem_take hl)
    rw [List.length_take] at this
    omega
  by_cases hlt : i < h.length
  · have ew := wrap_next hlt (by omega)
    have hli := hs _ (List.getElem_mem hlt)
    have hnx := catE_next hlt
    rcases hg with ⟨ge, hx⟩ | ⟨t, rfl, ht⟩
    · rw [avs_eq_nil] at ge
      rw [ge, List.nil_append] at hnx
      by_cases hz : (h[i]).length = 0
      · have hz2 : h[i] = [] := List.eq_nil_of_length_eq_zero hz
        rcases hx with rfl | rfl <;> simp [e6, e25, e26, e27, hlt, hz2] <;> exact ⟨i + 1, by omega, ew, by omega, .inl ⟨by rw [hnx, hz2]; rfl, .inr rfl⟩⟩
      · have hz' : ¬ h[i] = [] := fun e => hz (by rw [e]; rfl)
        have hzp : 0 < (h[i]).length := by omega
        rcases hx with rfl | rfl <;> simp [e6, e25, e26, e27, hlt] <;> refine ⟨⟨by omega, by omega⟩, i + 1, by omega, ew, by omega, .inr ⟨H.length, by rw [hnx, ownAt_pos hzp], ?_⟩⟩ <;> rw [hnx] <;> simp [appJ, hz']
    · simp [e6, e25, e26, e27, hlt, ht]
      have htl := (List.getElem?_eq_some_iff.1 ht).1
      refine ⟨⟨by omega, by omega⟩, i + 1, by omega, ew, by omega, .inr ⟨t, by rw [hnx], ?_⟩⟩
      rw [List.getElem?_set_self htl, hnx]
      simp
  · have hil : i = h.length := by omega
    subst hil
    rw [List.take_length] at hg
    obtain ⟨own, rfl⟩ := hg.own
    simp [e6, e25, e26, e27]
    exact Frz.slN (f := Ex'.av)
abbrev colE (t c : Int) : Ex' := .mk 15 ByteArray.empty ByteArray.empty t c zV []
def edE (x : Edg) : Ex' := .mk 1 ByteArray.empty ByteArray.empty 0 0 zV [colE x.a x.ac, colE x.b x.bc]
def allN (n : Nrm) : List Ex' := catE n.scan ++ n.edges.map edE ++ n.rest ++ n.whr
structure SmN (n : Nrm) : Prop where
  sc : n.scan.length ≤ 20
  sl : ∀ l, l ∈ n.scan → l.length ≤ 20
  ed : n.edges.length ≤ 40
  re : n.rest.length ≤ 20
  wh : n.whr.length ≤ 20
theorem catE_le2 {h : List (List Ex')} (hs : ∀ l, l ∈ h → l.length ≤ 20) : (catE h).length ≤ 20 * h.length := by
  induction h with
  | nil => simp [catE]
  | cons a h ih =>
    have h1 := hs a List.mem_cons_self
    have h2 := ih fun l hl => hs l (List.mem_cons_of_mem _ hl)
    have : catE (a :: h) = a ++ catE h := by simp [catE]
    rw [this, List.length_append, List.length_cons]
    omega
/-- what came in stands first -/
def At0 (n : Nrm) (H : List HO) : Prop := H[0]? = some (.box n.cs)
theorem At0.app {n : Nrm} {H : List HO} (h : At0 n H) (Y : List HO) : At0 n (H ++ Y) := getElem?_app h
theorem At0.set {n : Nrm} {H : List HO} (h : At0 n H) {t m k : Nat} (ht : H[t]? = some (.spare m k)) (b : HO) : At0 n (H.set t b) := by
  unfold At0
  rw [List.getElem?_set_ne (by rintro rfl; have : H[0]? = _ := h; rw [ht] at this; cases this)]
  exact h
abbrev colA (t c : Int) : AV := .agg [.int .i64 15, .str ByteArray.empty, .str ByteArray.empty, .int .i64 t, .int .i64 c, .int .i64 0, .int .i64 0, .str ByteArray.empty, .sl .exact []]
/-- an edge as it is written down -/
abbrev edA (x : Edg) : AV := .agg [.int .i64 1, .str ByteArray.empty, .str ByteArray.empty, .int .i64 0, .int .i64 0, .int .i64 0, .int .i64 0, .str ByteArray.empty, .sl .exact [colA x.a x.ac, colA x.b x.bc]]
theorem FrzC.app {H : List HO} : ∀ {a b c d : List AV}, FrzC H a b → FrzC H c d → FrzC H (a ++ c) (b ++ d)
  | _, _, _, _, .nil, h => h
  | _, _, _, _, .cons h t, h2 => .cons h (FrzC.app t h2)
theorem Frz.int {H : List HO} {k : IntKind} {v : Int} : Frz H (.int k v) (.int k v) := .of_cl2 (by simp)
theorem Frz.str {H : List HO} {v : ByteArray} : Frz H (.str v) (.str v) := .of_cl2 (by simp)
theorem colA_frz {H : List HO} (t c : Int) : FrzC H (colA t c).cells (colE t c).av.cells := .cons .int (.cons .str (.cons .str (.cons .int (.cons .int (.cons .int (.cons .int (.cons .str (.cons (Frz.slN (f := Ex'.av) (l := [])) .nil))))))))
theorem edA_frz {H : List HO} (x : Edg) : FrzC H (edA x).cells (edE x).av.cells := .cons .int (.cons .str (.cons .str (.cons .int (.cons .int (.cons .int (.cons .int (.cons .str (.cons (.sl ((colA_frz _ _).app ((colA_frz _ _).app .nil)) rfl (fun n h y hy => by
  have := h _ (List.mem_cons_self ..)
  simp [Ex'.avL] at hy
  rcases hy with rfl | rfl <;> (rw [← this]; rfl))) .nil))))))))
theorem FrzC.eds {H : List HO} : ∀ {l : List Edg}, FrzC H ((avs edA l).flatMap AV.cells) ((exprs (l.map edE)).flatMap AV.cells)
  | [] => .nil
  | x :: l => (edA_frz x).app FrzC.eds
theorem FrzC.exprs {H : List HO} : ∀ {l : List Ex'}, FrzC H ((exprs l).flatMap AV.cells) ((exprs l).flatMap AV.cells) := FrzC.refl (Selfs.flat (f := Ex'.av))
theorem GrowN.more {n : Nrm} {H : List HO} {x : AV} {X : List AV} {L : List Ex'} (h0 : At0 n H) (hg : GrowN 9 H x X) (hX : X.length ≤ 1000) (hS : ∀ a, a ∈ X → a.cells.length = 9) (hL : L.length ≤ 1000) : appS Try.prog 48 48 false x.ex (.sl .no (PL.exprs L)) H ∧ GrowN 9 (appH Try.prog 48 false x.ex (.sl .no (PL.exprs L)) H) (appV Try.prog 48 false x.ex (.sl .no (PL.exprs L)) H) (X ++ PL.exprs L) ∧ At0 n (appH Try.prog 48 false x.ex (.sl .no (PL.exprs L)) H) := by
  rcases hg with ⟨rfl, hx⟩ | ⟨t, rfl, ht⟩
  · have ex : x.ex = .sl .exact [] := by rcases hx with h | h <;> rw [h] <;> rfl
    rw [ex]
    by_cases hz : L = []
    · subst hz
      simp
      exact ⟨.inl ⟨rfl, .inr rfl⟩, h0⟩
    · have hzp : 0 < L.length := List.length_pos_iff.2 hz
      simp
      refine ⟨⟨by omega, by omega⟩, .inr ⟨H.length, by rw [ownAt_pos hzp], ?_⟩, h0.app _⟩
      simp [appJ, hz]
  · have htl := (List.getElem?_eq_some_iff.1 ht).1
    simp [ht]
    refine ⟨⟨⟨by omega, by omega⟩, hS⟩, .inr ⟨t, rfl, ?_⟩, h0.set ht _⟩
    rw [List.getElem?_set_self htl]
    simp
theorem nineA {A : List Ex'} {l : List Edg} : ∀ a, a ∈ PL.exprs A ++ avs edA l → a.cells.length = 9 := by
  intro a ha
  rcases List.mem_append.1 ha with h | h
  · obtain ⟨x, _, rfl⟩ := mem_avs.1 h; exact Sized.size (f := Ex'.av) x
  · obtain ⟨x, _, rfl⟩ := mem_avs.1 h; rfl
theorem edE_cs (x : Edg) : (edE x).cs = [.int .i64 1, .str ByteArray.empty, .str ByteArray.empty, .int .i64 0, .int .i64 0, .int .i64 0, .int .i64 0, .str ByteArray.empty, .sl .no [.agg (colE x.a x.ac).cs, .agg (colE x.b x.bc).cs]] := by simp [edE, zV]
set_option maxHeartbeats 1000000 in
theorem T_nall (n : Nrm) (hs : SmN n) : T Try.prog 48 [n.av] (.sl .no (exprs (allN n))) := by
  have s1 := hs.sc
  have s2 := hs.ed
  have s3 := hs.re
  have s4 := hs.wh
  refine T.introF (TS.body mix Try.func48 (by kernel_rfl) rfl (by kernel_rfl) (by simp) ?_)
  simp
  refine vc_loop (fun i : Nat => n.scan.length - i) (fun i e H => ∃ x, e 1 = .ptr 0 0 ∧ e 3 = x ∧ e 9 = .sl .no (avs (slA Ex'.av) n.scan) ∧ e 10 = .int .i64 n.scan.length ∧ e 11 = .int .i64 i ∧ i ≤ n.scan.length ∧ At0 n H ∧ GrowN 9 H x (exprs (catE (n.scan.take i)))) 0 ?_ ?_
  · refine ⟨.sl .nil [], ?_⟩
    simp [catE]
    exact ⟨rfl, .inl ⟨rfl, .inl rfl⟩⟩
  rintro i e H ⟨x, e1, e3, e9, e10, e11, hi, h0, hg⟩
  have hci := catE_le2 (h := n.scan.take i) fun l hl => hs.sl l (List.mem_of_mem_take hl)
  rw [List.length_take] at hci
  have h00 := h0
  unfold At0 at h0
  have h0' : ∀ Y : List HO, (H ++ Y)[0]? = some (.box n.cs) := fun Y => getElem?_app h0
  by_cases hlt : i < n.scan.length
  · have ew := wrap_next hlt (by omega)
    have hli := hs.sl _ (List.getElem_mem hlt)
    have hnx := catE_next hlt
    rcases hg with ⟨ge, hx⟩ | ⟨t, rfl, ht⟩
    · rw [avs_eq_nil] at ge
      rw [ge, List.nil_append] at hnx
      by_cases hz : (n.scan[i]).length = 0
      · have hz2 : n.scan[i] = [] := List.eq_nil_of_length_eq_zero hz
        rcases hx with rfl | rfl <;> simp [e1, e3, e9, e10, e11, hlt, hz2, h0] <;> exact ⟨i + 1, by omega, ew, by omega, h00, .inl ⟨by rw [hnx, hz2]; rfl, .inr rfl⟩⟩
      · have hz' : ¬ n.scan[i] = [] := fun e => hz (by rw [e]; rfl)
        have hzp : 0 < (n.scan[i]).length := by omega
        rcases hx with rfl | rfl <;> simp [e1, e3, e9, e10, e11, hlt, h0, h0'] <;> refine ⟨⟨by omega, by omega⟩, i + 1, by omega, ew, by omega, h00.app _, .inr ⟨H.length, by rw [hnx, ownAt_pos hzp], ?_⟩⟩ <;> rw [hnx] <;> simp [appJ, hz']
    · simp [e1, e3, e9, e10, e11, hlt, ht]
      have htl := (List.getElem?_eq_some_iff.1 ht).1
      refine ⟨⟨by omega, by omega⟩, i + 1, by omega, ew, by omega, h00.set ht _, .inr ⟨t, by rw [hnx], ?_⟩⟩
      rw [List.getElem?_set_self htl, hnx]
      simp
  have hil : i = n.scan.length := by omega
  subst hil
  rw [List.take_length] at hg
  have hcl := catE_le2 hs.sl
  obtain ⟨A, hA⟩ : ∃ A, A = catE n.scan := ⟨_, rfl⟩
  obtain ⟨M, hM⟩ : ∃ M, M = n.edges.map edE := ⟨_, rfl⟩
  have hMl : M.length = n.edges.length := by rw [hM, List.length_map]
  have hMg : ∀ i (h : i < n.edges.length) (h' : i < M.length), M[i] = edE n.edges[i] := fun i h h' => by simp [hM]
  have hall : allN n = A ++ M ++ n.rest ++ n.whr := by rw [hA, hM]; rfl
  rw [hall]
  rw [← hA] at hg hcl
  simp [e1, e3, e9, e10, e11, h0]
  refine vc_loop (fun i : Nat => n.edges.length - i) (fun i e H => ∃ x, e 1 = .ptr 0 0 ∧ e 3 = x ∧ e 20 = .sl .no (edgs n.edges) ∧ e 21 = .int .i64 n.edges.length ∧ e 22 = .int .i64 i ∧ i ≤ n.edges.length ∧ At0 n H ∧ GrowN 9 H x (exprs (A ++ M.take i))) 0 ?_ ?_
  · refine ⟨x, ?_⟩
    simp [e1, e3]
    exact ⟨h00, hg⟩
  clear hg e1 e3 e9 e10 e11 h0 h0' h00 hci hi hlt x e H hall hA hM
  rintro i e H ⟨x, e1, e3, e20, e21, e22, hi, h0, hg⟩
  have h00 := h0
  unfold At0 at h0
  have h0' : ∀ Y : List HO, (H ++ Y)[0]? = some (.box n.cs) := fun Y => getElem?_app h0
  by_cases hlt : i < n.edges.length
  · have ew := wrap_next hlt (by omega)
    have ko := T_ofE 1 [colE n.edges[i].a n.edges[i].ac, colE n.edges[i].b n.edges[i].bc] (by show 2 * 112 ≤ _; decide)
    have hnx := take_next (show i < M.length by omega)
    rw [hMg i hlt] at hnx
    have hnx2 : A ++ M.take (i + 1) = A ++ M.take i ++ [edE n.edges[i]] := by rw [hnx, List.append_assoc]
    change T _ _ _ (edE n.edges[i]).av at ko
    have hle : (A ++ M.take i).length ≤ 440 := by rw [List.length_append, List.length_take]; omega
    obtain ⟨B, hB⟩ : ∃ B, B = A ++ M.take i := ⟨_, rfl⟩
    obtain ⟨B2, hB2⟩ : ∃ B2, B2 = A ++ M.take (i + 1) := ⟨_, rfl⟩
    rw [← hB] at hg hle
    rw [← hB, ← hB2] at hnx2
    rw [Ex'.av_eq] at ko
    obtain ⟨y, hy⟩ : ∃ y, y = edE n.edges[i] := ⟨_, rfl⟩
    rw [← hy] at ko hnx2
    clear hnx hy hMg
    have fin : ∀ (e' : Env) (H' : List HO) (x' : AV), True := fun _ _ _ => trivial
    rcases hg with ⟨ge, hx⟩ | ⟨t, rfl, ht⟩
    · rw [avs_eq_nil] at ge
      rw [ge, List.nil_append] at hnx2
      rcases hx with rfl | rfl
      · simp [e1, e3, e20, e21, e22, hlt, h0, h0']
        refine TS.callW ko (.cons (.self rfl) (.cons (by simp only [avs_cons, avs_nil, zV]; repeat (first | exact .self rfl | constructor)) .nil)) ?_
        simp [e1, e3, e20, e21, e22, hlt, h0, h0']
        refine ⟨i + 1, by omega, ew, by omega, h00.app _, .inr ⟨H.length + 1, ?_, ?_⟩⟩
        · rw [← hB2, hnx2]; simp
        · rw [← hB2, hnx2]; simp
      · simp [e1, e3, e20, e21, e22, hlt, h0, h0']
        refine TS.callW ko (.cons (.self rfl) (.cons (by simp only [avs_cons, avs_nil, zV]; repeat (first | exact .self rfl | constructor)) .nil)) ?_
        simp [e1, e3, e20, e21, e22, hlt, h0, h0']
        refine ⟨i + 1, by omega, ew, by omega, h00.app _, .inr ⟨H.length + 1, ?_, ?_⟩⟩
        · rw [← hB2, hnx2]; simp
        · rw [← hB2, hnx2]; simp
    · have htl := (List.getElem?_eq_some_iff.1 ht).1
      have ht' : ∀ Y : List HO, (H ++ Y)[t]? = some (.spare B.length 9) := fun Y => getElem?_app (by rw [ht]; simp)
      simp [e1, e3, e20, e21, e22, hlt, h0, h0', ht']
      refine TS.callW ko (.cons (.self rfl) (.cons (by simp only [avs_cons, avs_nil, zV]; repeat (first | exact .self rfl | constructor)) .nil)) ?_
      simp [e1, e3, e20, e21, e22, hlt, h0, h0', ht']
      refine ⟨⟨by omega, by omega⟩, i + 1, by omega, ew, by omega, (h00.app _).set (ht' _) _, .inr ⟨t, ?_, ?_⟩⟩
      · rw [← hB2, hnx2]; exact congrArg _ (exprs_snoc _ _)
      · rw [← hB2, hnx2, List.getElem?_set_self (by simp; omega)]; simp
  have hil : i = n.edges.length := by omega
  subst hil
  rw [List.take_of_length_le (by omega)] at hg
  obtain ⟨own, rfl⟩ := hg.own
  have hAM : (A ++ M).length ≤ 440 := by rw [List.length_append]; omega
  have kc := T_concatE [A ++ M, n.rest, n.whr] (by simp) (by
    intro l hl
    simp at hl
    rcases hl with rfl | rfl | rfl <;> omega)
  have hcat : catE [A ++ M, n.rest, n.whr] = A ++ M ++ n.rest ++ n.whr := by simp [catE]
  rw [hcat] at kc
  simp [e1, e3, e20, e21, e22, h0]
  refine TS.callW kc (.cons (.sl (.cons (.sl (Dws.self (by simp))) (.cons (.self (by simp)) (.cons (.self (by simp)) .nil)))) .nil) ?_
  simp
  exact Frz.slN (f := Ex'.av)
set_option maxHeartbeats 1000000 in
theorem T_rall16 (n : Nrm) (hs : SmN n) : T Try.prog 49 [n.av] (.sl .no (exprs (allN n))) := by
  have s1 := hs.sc
  have s2 := hs.ed
  have s3 := hs.re
  have s4 := hs.wh
  refine T.introF (TS.bodyM [100011, 1110302, 1110602, 1110605] mix Try.func49 (by kernel_rfl) rfl (by kernel_rfl) (by simp) ?_)
  simp
  refine vc_loop (fun i : Nat => n.scan.length - i) (fun i e H => ∃ x, e 1 = .ptr 0 0 ∧ e 3 = x ∧ e 4 = .int .i64 i ∧ i ≤ n.scan.length ∧ At0 n H ∧ GrowN 9 H x (exprs (catE (n.scan.take i)))) 0 ?_ ?_
  · refine ⟨.sl .nil [], ?_⟩
    simp [catE]
    exact ⟨rfl, .inl ⟨rfl, .inl rfl⟩⟩
  rintro i e H ⟨x, e1, e3, e4, hi, h0, hg⟩
  have hci := catE_le2 (h := n.scan.take i) fun l hl => hs.sl l (List.mem_of_mem_take hl)
  rw [List.length_take] at hci
  have h00 := h0
  unfold At0 at h0
  have h0' : ∀ Y : List HO, (H ++ Y)[0]? = some (.box n.cs) := fun Y => getElem?_app h0
  by_cases hlt : i < n.scan.length
  · have ew := wrap_next hlt (by omega)
    have hli := hs.sl _ (List.getElem_mem hlt)
    have hnx := catE_next hlt
    rcases hg with ⟨ge, hx⟩ | ⟨t, rfl, ht⟩
    · rw [avs_eq_nil] at ge
      rw [ge, List.nil_append] at hnx
      by_cases hz : (n.scan[i]).length = 0
      · have hz2 : n.scan[i] = [] := List.eq_nil_of_length_eq_zero hz
        rcases hx with rfl | rfl <;> simp [e1, e3, e4, hlt, hz2, h0] <;> exact ⟨i + 1, by omega, ew, by omega, h00, .inl ⟨by rw [hnx, hz2]; rfl, .inr rfl⟩⟩
      · have hz' : ¬ n.scan[i] = [] := fun e => hz (by rw [e]; rfl)
        have hzp : 0 < (n.scan[i]).length := by omega
        rcases hx with rfl | rfl <;> simp [e1, e3, e4, hlt, h0, h0'] <;> refine ⟨⟨by omega, by omega⟩, i + 1, by omega, ew, by omega, h00.app _, .inr ⟨H.length, by rw [hnx, ownAt_pos hzp], ?_⟩⟩ <;> rw [hnx] <;> simp [appJ, hz']
    · simp [e1, e3, e4, hlt, ht, h0]
      have htl := (List.getElem?_eq_some_iff.1 ht).1
      refine ⟨⟨by omega, by omega⟩, i + 1, by omega, ew, by omega, h00.set ht _, .inr ⟨t, by rw [hnx], ?_⟩⟩
      rw [List.getElem?_set_self htl, hnx]
      simp
  have hil : i = n.scan.length := by omega
  subst hil
  rw [List.take_length] at hg
  have hcl := catE_le2 hs.sl
  obtain ⟨A, hA⟩ : ∃ A, A = catE n.scan := ⟨_, rfl⟩
  have hall : allN n = A ++ n.edges.map edE ++ n.rest ++ n.whr := by rw [hA]; rfl
  rw [hall]
  rw [← hA] at hg hcl
  simp [e1, e3, e4, h0]
  refine vc_loop (fun i : Nat => n.edges.length - i) (fun i e H => ∃ x, e 1 = .ptr 0 0 ∧ e 3 = x ∧ e 5 = .int .i64 i ∧ i ≤ n.edges.length ∧ At0 n H ∧ GrowN 9 H x (exprs A ++ avs edA (n.edges.take i))) 0 ?_ ?_
  · refine ⟨x, ?_⟩
    simp [e1, e3]
    exact ⟨h00, hg⟩
  clear hg e1 e3 e4 h0 h0' h00 hci hi hlt x e H hall hA
  rintro i e H ⟨x, e1, e3, e5, hi, h0, hg⟩
  have h00 := h0
  unfold At0 at h0
  have h0' : ∀ Y : List HO, (H ++ Y)[0]? = some (.box n.cs) := fun Y => getElem?_app h0
  by_cases hlt : i < n.edges.length
  · have ew := wrap_next hlt (by omega)
    have hnx2 : exprs A ++ avs edA (n.edges.take (i + 1)) = (exprs A ++ avs edA (n.edges.take i)) ++ [edA n.edges[i]] := by rw [take_next hlt]; simp
    have hle : (exprs A ++ avs edA (n.edges.take i)).length ≤ 440 := by rw [List.length_append, avs_length, avs_length, List.length_take]; omega
    obtain ⟨X, hX⟩ : ∃ X, X = exprs A ++ avs edA (n.edges.take i) := ⟨_, rfl⟩
    obtain ⟨X2, hX2⟩ : ∃ X2, X2 = exprs A ++ avs edA (n.edges.take (i + 1)) := ⟨_, rfl⟩
    have hS : ∀ a, a ∈ exprs A ++ avs edA (n.edges.take i) → a.cells.length = 9 := nineA
    rw [← hX] at hg hle hS
    rw [← hX, ← hX2] at hnx2
    rcases hg with ⟨rfl, hx⟩ | ⟨t, rfl, ht⟩
    · rw [List.nil_append] at hnx2
      have ex : x.ex = .sl .exact [] := by rcases hx with h | h <;> rw [h] <;> rfl
      simp [e1, e3, e5, hlt, h0, h0', ex]
      refine ⟨i + 1, by omega, ew, by omega, h00.app _, .inr ⟨H.length + 1, ?_, ?_⟩⟩
      · rw [← hX2, hnx2]
      · rw [← hX2, hnx2]; simp
    · have htl := (List.getElem?_eq_some_iff.1 ht).1
      have ht' : ∀ Y : List HO, (H ++ Y)[t]? = some (.spare X.length 9) := fun Y => getElem?_app ht
      simp [e1, e3, e5, hlt, h0, h0', ht']
      refine ⟨⟨⟨by omega, by omega⟩, hS⟩, i + 1, by omega, ew, by omega, (h00.app _).set (ht' _) _, .inr ⟨t, ?_, ?_⟩⟩
      · rw [← hX2, hnx2]
      · rw [← hX2, hnx2, List.getElem?_set_self (by simp; omega)]; simp
  have hil : i = n.edges.length := by omega
  subst hil
  rw [List.take_length] at hg
  have hXl : (exprs A ++ avs edA n.edges).length ≤ 440 := by rw [List.length_append, avs_length, avs_length]; omega
  obtain ⟨k1, k2, k3⟩ := hg.more (L := n.rest) h00 (by omega) nineA (by omega)
  have hXl2 : (exprs A ++ avs edA n.edges ++ exprs n.rest).length ≤ 460 := by rw [List.length_append, avs_length]; omega
  have hS2 : ∀ a, a ∈ exprs A ++ avs edA n.edges ++ exprs n.rest → a.cells.length = 9 := fun a ha => by
    rcases List.mem_append.1 ha with h | h
    · exact nineA a h
    · obtain ⟨x, _, rfl⟩ := mem_avs.1 h; exact Sized.size (f := Ex'.av) x
  obtain ⟨m1, m2, m3⟩ := k2.more (L := n.whr) k3 (by omega) hS2 (by omega)
  have k4 := k3
  unfold At0 at k4
  simp [e1, e3, e5, h0, k4]
  refine ⟨k1, m1, ?_⟩
  obtain ⟨own, ho⟩ := m2.own
  rw [ho]
  refine .sl ?_ ?_ ?_
  · have := ((FrzC.exprs (l := A)).app (FrzC.eds (l := n.edges))).app ((FrzC.exprs (l := n.rest)).app (FrzC.exprs (l := n.whr) (H := appH Try.prog 48 false (appV Try.prog 48 false x.ex (.sl .no (exprs n.rest)) H).ex (.sl .no (exprs n.whr)) (appH Try.prog 48 false x.ex (.sl .no (exprs n.rest)) H))))
    have e1 : ∀ a b c d : List AV, (a ++ b ++ c ++ d).flatMap AV.cells = (a.flatMap AV.cells ++ b.flatMap AV.cells) ++ (c.flatMap AV.cells ++ d.flatMap AV.cells) := fun a b c d => by simp only [List.flatMap_append, List.append_assoc]
    have e2 : ∀ a b c d : List Ex', (exprs (a ++ (b ++ (c ++ d)))).flatMap AV.cells = ((exprs a).flatMap AV.cells ++ (exprs b).flatMap AV.cells) ++ ((exprs c).flatMap AV.cells ++ (exprs d).flatMap AV.cells) := fun a b c d => by simp only [exprs, ← avs_append, List.flatMap_append, List.append_assoc]
    rw [e1, e2]
    exact this
  · simp
  · intro m hm y hy
    obtain ⟨a, ha, rfl⟩ := mem_avs.1 hy
    have hall9 : ∀ a, a ∈ exprs A ++ avs edA n.edges ++ exprs n.rest ++ exprs n.whr → a.cells.length = 9 := fun a ha => by
      rcases List.mem_append.1 ha with h | h
      · exact hS2 a h
      · obtain ⟨x, _, rfl⟩ := mem_avs.1 h; exact Sized.size (f := Ex'.av) x
    have hne : 0 < (exprs A ++ avs edA n.edges ++ exprs n.rest ++ exprs n.whr).length := by
      have := List.length_pos_of_mem ha
      simp at this ⊢
      omega
    obtain ⟨x, hx⟩ := List.exists_mem_of_length_pos hne
    have h1 := hall9 x hx
    have h2 := hm x hx
    have h3 : (Ex'.av a).cells.length = 9 := Sized.size (f := Ex'.av) a
    omega
theorem fH_oth {H : List HO} {R : Nat} {up : List Nat} {i : Int} : (fH H R up i).length = H.length ∧ ∀ j, j ≠ R → (fH H R up i)[j]? = H[j]? := by
  unfold fH
  split
  · exact ⟨by simp, fun j hj => by rw [List.getElem?_set_ne (Ne.symm hj)]⟩
  · exact ⟨rfl, fun _ _ => rfl⟩
theorem joH_oth {H : List HO} {R : Nat} {up : List Nat} {a b : Int} : (joH H R up a b).length = H.length ∧ ∀ j, j ≠ R → (joH H R up a b)[j]? = H[j]? := by
  have h1 := fH_oth (H := H) (R := R) (up := up) (i := a)
  have h2 := fH_oth (H := fH H R up a) (R := R) (up := fu up a) (i := b)
  have h3 : (joH0 H R up a b).length = H.length ∧ ∀ j, j ≠ R → (joH0 H R up a b)[j]? = H[j]? := ⟨by unfold joH0; rw [h2.1, h1.1], fun j hj => by unfold joH0; rw [h2.2 j hj, h1.2 j hj]⟩
  unfold joH
  split
  · exact ⟨by rw [List.length_set, h3.1], fun j hj => by rw [List.getElem?_set_ne (Ne.symm hj), h3.2 j hj]⟩
  · exact h3
theorem S_joinF {H : List HO} {C R n : Nat} {r : List Nat} (a b : Int) (h : UfRef H C R n r) (hCR : C ≠ R) (hl : n ≤ 1000) : TS Try.prog 84 [.ptr C 0, .int .i64 a, .int .i64 b] H (fun x H' => (∃ b, x = .bool b) ∧ UfRef H' C R n (rjo r a b) ∧ H'.length = H.length ∧ ∀ j, j ≠ R → H'[j]? = H[j]?) := by
  obtain ⟨up, h1, h2, h3, h4⟩ := h
  refine (S_join H C R up a b h1 h2 hCR (by omega)).mono ?_
  rintro _ _ ⟨rfl, rfl⟩
  have j := jo_ok h2 a b
  exact ⟨⟨_, rfl⟩, ⟨_, jo_at h1 h2 hCR a b, j.2.1, by rw [j.1, h3], same_join h2 h4 a b⟩, joH_oth⟩
/-- the columns that an edge joins -/
def prE (l : List Edg) : List (Int × Int) := l.map fun e => (colN e.a e.ac, colN e.b e.bc)
theorem prE_next {l : List Edg} {i : Nat} (h : i < l.length) (r : List Nat) : plR r (prE (l.take (i + 1))) = rjo (plR r (prE (l.take i))) (colN l[i].a l[i].ac) (colN l[i].b l[i].bc) := by
  rw [take_next h, prE, List.map_append, plR_append]
  rfl
def clsE (l : List Edg) : List Nat := plR (List.range 128) (prE l)
theorem UfRef.app {H L : List HO} {C R n : Nat} {r : List Nat} (h : UfRef H C R n r) : UfRef (H ++ L) C R n r := by
  obtain ⟨up, h1, h2⟩ := h
  exact ⟨up, h1.app, h2⟩
theorem UfRef.lt {H : List HO} {C R n : Nat} {r : List Nat} (h : UfRef H C R n r) (hn : 0 < n) : C < H.length ∧ R < H.length := by
  obtain ⟨up, h1, h2, h3, h4⟩ := h
  rcases h1 with ⟨h1, _⟩ | ⟨h1, hC, hR⟩
  · subst h1; simp at h3; omega
  · exact ⟨(List.getElem?_eq_some_iff.1 hC).1, (List.getElem?_eq_some_iff.1 hR).1⟩
set_option maxRecDepth 4000 in
theorem S_classes (H : List HO) (n : Nrm) (hl : n.edges.length ≤ 1000000) : TS Try.prog 41 [n.av] H (fun x H' => x = .ptr (H.length + 1) 0 ∧ UfRef H' (H.length + 1) (H.length + 2) 128 (clsE n.edges) ∧ ∀ j, j < H.length → H'[j]? = H[j]?) := by
  have f1 := S_new (H ++ [.box n.cs]) 128
  have hnn : newN 128 = 128 := by decide
  rw [hnn] at f1
  have u0 := UfRef.new (H ++ [.box n.cs]) 128
  have hfr : ∀ j, j < H.length → (newH (H ++ [.box n.cs]) 128)[j]? = H[j]? := fun j hj => by
    unfold newH
    rw [if_neg (by omega), List.getElem?_append_left (by simp; omega), List.getElem?_append_left hj]
  have hn1 : ∃ b, (newH (H ++ [.box n.cs]) 128)[H.length]? = some b ∧ b = .box n.cs := by
    unfold newH
    rw [if_neg (by omega), List.getElem?_append_left (by simp)]
    simp
  obtain ⟨_, hn1, rfl⟩ := hn1
  simp only [List.length_append, List.length_singleton] at f1 u0
  rw [Nat.add_assoc H.length 1 1] at u0
  refine TS.bodyM [100005, 2000511, 1051102, 1051104, 1051107, 1051109] mix Try.func41 (by kernel_rfl) rfl (by kernel_rfl) (by simp) ?_
  simp
  refine TS.pt f1 ?_
  generalize newH (H ++ [.box n.cs]) 128 = H1 at *
  simp [hn1]
  refine vc_loop (fun i : Nat => n.edges.length - i) (fun i e H' => e 3 = .ptr (H.length + 1) 0 ∧ e 8 = .sl .no (edgs n.edges) ∧ e 9 = .int .i64 n.edges.length ∧ e 10 = .int .i64 i ∧ i ≤ n.edges.length ∧ UfRef H' (H.length + 1) (H.length + 2) 128 (plR (List.range 128) (prE (n.edges.take i))) ∧ ∀ j, j < H.length → H'[j]? = H[j]?) 0 ?_ ?_
  · simp [prE, plR]
    exact ⟨u0, hfr⟩
  clear f1 u0 hfr hn1 H1
  rintro i e H1 ⟨e3, e8, e9, e10, hi, hu, hfr⟩
  by_cases hlt : i < n.edges.length
  · have ew := wrap_next hlt (by omega)
    have hu1 := hu.app (L := [.box n.edges[i].cs])
    have hul := hu.lt (by omega)
    simp [e3, e8, e9, e10, hlt]
    refine TDK.callW (T_ncolumn _ _) (Dws.self (by simp)) ?_
    simp [e3, e8, e9, e10, hlt]
    refine TDK.callW (T_ncolumn _ _) (Dws.self (by simp)) ?_
    simp [e3, e8, e9, e10, hlt]
    have hnx := prE_next hlt (List.range 128)
    obtain ⟨up, h1, h2, h3, h4⟩ := hu1
    refine TWK.call (S_join _ _ _ up _ _ h1 h2 (by omega) (by omega)) ?_
    have j1 := jo_ok h2 (colN n.edges[i].a n.edges[i].ac) (colN n.edges[i].b n.edges[i].bc)
    have j2 := jo_at h1 h2 (by omega) (colN n.edges[i].a n.edges[i].ac) (colN n.edges[i].b n.edges[i].bc)
    have j3 := same_join h2 h4 (colN n.edges[i].a n.edges[i].ac) (colN n.edges[i].b n.edges[i].bc)
    have j4 := joH_oth (H := H1 ++ [.box n.edges[i].cs]) (R := H.length + 2) (up := up) (a := colN n.edges[i].a n.edges[i].ac) (b := colN n.edges[i].b n.edges[i].bc)
    simp [e3, e8, e9, e10, hlt]
    refine ⟨i + 1, by omega, ew, by omega, ?_, fun j hj => ?_⟩
    · rw [hnx]
      exact ⟨_, j2, j1.2.1, by rw [j1.1, h3], j3⟩
    · rw [j4.2 j (by omega), List.getElem?_append_left (by omega), hfr j hj]
  · have : i = n.edges.length := by omega
    subst this
    rw [List.take_length] at hu
    simp [e3, e8, e9, e10]
    exact ⟨hu, hfr⟩
theorem Edg_in {cs : List AV} (h : Sh Try.prog 59 cs) : ∃ x : Edg, cs = x.cs := by
  obtain ⟨hl, hf⟩ := h.struct_of ft_59
  match cs, hl, hf with
  | [x0, x1, x2, x3], _, hf =>
    obtain ⟨a, h0, _⟩ := (hf (3, 0, 1) (by simp)).int_of un_3
    obtain ⟨b, h1, _⟩ := (hf (3, 1, 1) (by simp)).int_of un_3
    obtain ⟨c, h2, _⟩ := (hf (3, 2, 1) (by simp)).int_of un_3
    obtain ⟨d, h3, _⟩ := (hf (3, 3, 1) (by simp)).int_of un_3
    simp at h0 h1 h2 h3
    subst h0 h1 h2 h3
    exact ⟨⟨a, b, c, d⟩, rfl⟩
theorem edgs_in {cs : List AV} (h : Sh Try.prog 65 cs) : ∃ l : List Edg, cs = [.sl .no (edgs l)] ∧ l.length < 4611686018427387904 := by
  obtain ⟨ys, rfl, hy, b⟩ := h.sl_of un_65 ag_59
  obtain ⟨l, e1, e2, _⟩ := list_in (f := Edg.av) (g := mkAV true) (Q := fun _ => True) (fun y hy' => by
    obtain ⟨x, h1⟩ := Edg_in (hy y hy')
    exact ⟨x, by rw [h1]; rfl, trivial⟩)
  have by1 : Try.prog.bytesOf 59 ≠ 0 := by decide +kernel
  refine ⟨l, by rw [e1]; rfl, ?_⟩
  have h1 : l.length * 1 ≤ l.length * Try.prog.bytesOf 59 := Nat.mul_le_mul_left _ (by omega)
  rw [← e2] at b
  have := reach_lt
  omega
theorem Lt_in {cs : List AV} (h : Sh Try.prog 117 cs) : ∃ x : Lt, cs = x.cs := by
  obtain ⟨hl, hf⟩ := h.struct_of ft_117
  match cs, hl, hf with
  | [x0, x1, x2, x3, x4], _, hf =>
    obtain ⟨a, h0, _⟩ := (hf (3, 0, 1) (by simp)).int_of un_3
    obtain ⟨b, h1, _⟩ := (hf (3, 1, 1) (by simp)).int_of un_3
    obtain ⟨c, h2, _⟩ := edgs_in (hf (65, 2, 1) (by simp))
    obtain ⟨d, h3, _⟩ := exprs_in (hf (48, 3, 1) (by simp))
    obtain ⟨e, h4, _⟩ := exprs_in (hf (48, 4, 1) (by simp))
    simp at h0 h1 h2 h3 h4
    subst h0 h1 h2 h3 h4
    exact ⟨⟨a, b, c, d, e⟩, rfl⟩
structure InN (n : Nrm) : Prop where
  sc : n.scan.length < 4611686018427387904
  sl : ∀ l, l ∈ n.scan → OkL l
  ed : n.edges.length < 4611686018427387904
  re : OkL n.rest
  wh : OkL n.whr
theorem Nrm_in {cs : List AV} (h : Sh Try.prog 68 cs) : ∃ n : Nrm, cs = n.cs ∧ InN n := by
  obtain ⟨hl, hf⟩ := h.struct_of ft_68
  match cs, hl, hf with
  | [x0, x1, x2, x3, x4, x5], _, hf =>
    obtain ⟨a, h0, _⟩ := (hf (3, 0, 1) (by simp)).int_of un_3
    obtain ⟨ys, h1, hy, bb⟩ := (hf (64, 1, 1) (by simp)).sl_of un_64 ag_48
    obtain ⟨b, b1, b2, b3⟩ := list_in (f := slA Ex'.av) (g := mkAV false) (Q := OkL) (fun y hy' => by
      obtain ⟨x, h1, h2⟩ := exprs_in (hy y hy')
      exact ⟨x, by rw [h1]; rfl, h2⟩)
    have by1 : Try.prog.bytesOf 48 ≠ 0 := by decide +kernel
    have hbl : b.length < 4611686018427387904 := by
      have h1 : b.length * 1 ≤ b.length * Try.prog.bytesOf 48 := Nat.mul_le_mul_left _ (by omega)
      rw [← b2] at bb
      have := reach_lt
      omega
    rw [b1] at h1
    obtain ⟨c, h2, c2⟩ := edgs_in (hf (65, 2, 1) (by simp))
    obtain ⟨d, h3, d2⟩ := exprs_in (hf (48, 3, 1) (by simp))
    obtain ⟨zs, h4, hz, _⟩ := (hf (66, 4, 1) (by simp)).sl_of un_66 ag_117
    obtain ⟨e, e1, _, _⟩ := list_in (f := Lt.av) (g := mkAV true) (Q := fun _ => True) (fun y hy' => by
      obtain ⟨x, h1⟩ := Lt_in (hz y hy')
      exact ⟨x, by rw [h1]; rfl, trivial⟩)
    rw [e1] at h4
    obtain ⟨f, h5, f2⟩ := exprs_in (hf (48, 5, 1) (by simp))
    simp at h0 h1 h2 h3 h4 h5
    subst h0 h1 h2 h3 h4 h5
    exact ⟨⟨a, b, c, d, e, f⟩, rfl, ⟨hbl, b3, c2, d2, f2⟩⟩
abbrev zE : Ex' := .mk 0 ByteArray.empty ByteArray.empty 0 0 zV []
theorem zE_ok : OkE zE := .mk (by simp) (by simp [valIn]) (by decide) (by decide) (by simp)
theorem OkL.nil : OkL [] := ⟨by simp, by simp⟩
theorem muchQ_len {q : Qry} (h : muchQ q = false) : q.sel.length ≤ 20 ∧ q.grp.length ≤ 12 := by
  unfold muchQ at h
  simp only [Bool.or_eq_false_iff, decide_eq_false_iff_not] at h
  omega
theorem same_len {H : List HO} {r : List Nat} {n : Nrm} (a b : Int) (hu : UfRef H 2 3 128 r) (hb : At0 n H) : ∃ H', TS Try.prog 46 [.ptr 2 0, .int .i64 a, .int .i64 b] H (pt (.bool (smR 128 (fun k => r.getD k 0) a b)) H') ∧ TS Try.prog 47 [.ptr 2 0] H' (pt (.int .i64 128) H') ∧ At0 n H' := by
  obtain ⟨hS, _⟩ := hu.ufs
  obtain ⟨up, h1, h2, h3, h4⟩ := hu
  have hr : ∀ k, k < 128 → rt up k = r.getD k 0 := fun k hk => (h4.2 k (by omega)).symm
  have hst : UfStep H (smH H 3 up a b) 2 3 128 (fun k => r.getD k 0) := by
    have k1 := fu_ok h2 a
    have k2 := fu_at h1 h2 (by omega) a
    unfold smH
    split
    · exact (fH_step h1 h2 (by omega) h3 hr a).trans (fH_step k2 k1.2.1 (by omega) (by rw [k1.1, h3]) (fun k hk => by rw [k1.2.2, hr k hk]) b)
    · exact UfStep.refl hS
  have hv : smB up a b = smR 128 (fun k => r.getD k 0) a b := by
    unfold smB smR
    rw [fv_R h3 hr, fv_R h3 hr]
    unfold inR inR'
    rw [h3]
  refine ⟨smH H 3 up a b, ?_, ?_, ?_⟩
  · rw [← hv]
    exact S_same H 2 3 up a b h1 h2 (by omega) (by omega)
  · obtain ⟨vp, v1, v2, v3, v4⟩ := hst.st
    have := S_len _ 2 3 vp v1 (by omega)
    rw [v3] at this
    exact this
  · exact (hst.oth 0 (.inl (by omega))).trans hb
theorem allN_ok {n : Nrm} (hi : InN n) (hs : SmN n) : (allN n).length ≤ 1000000 ∧ ∀ x, x ∈ allN n → OkE x := by
  have h1 := catE_le2 hs.sl
  have s1 := hs.sc
  have s2 := hs.ed
  have s3 := hs.re
  have s4 := hs.wh
  refine ⟨by rw [allN, List.length_append, List.length_append, List.length_append, List.length_map]; omega, fun x hx => ?_⟩
  rw [allN, List.mem_append, List.mem_append, List.mem_append] at hx
  rcases hx with ((h | h) | h) | h
  · obtain ⟨l, h2, h3⟩ := List.mem_flatMap.1 h
    exact (hi.sl l h2).ok x h3
  · obtain ⟨y, _, rfl⟩ := List.mem_map.1 h
    have z0 : ByteArray.empty.size ≤ reachBytes := by decide
    have oc : ∀ t c, OkE (colE t c) := fun t c => .mk (by simp) (by simp [valIn]) z0 z0 (by simp)
    unfold edE
    exact .mk (by simp) (by simp [valIn]) z0 z0 (by simp [oc])
  · exact hi.re.ok x h
  · exact hi.wh.ok x h
set_option maxRecDepth 8000 in
set_option maxHeartbeats 2000000 in
theorem T_NormClasses (n : Nrm) (t c u d : Int) (hi : InN n) : T Try.prog 7 [n.av, .int .i64 t, .int .i64 c, .int .i64 u, .int .i64 d] (.bool true) := by
  have km := T_muchQ ⟨n.rest, [], zE, n.whr⟩ ⟨hi.re, by simp, by simp, zE_ok, hi.wh⟩
  refine T.intro (TS.bodyM [100017, 2001709, 2001715, 1171909, 1171915, 1172109, 1172115] mix Try.func7 (by kernel_rfl) rfl (by kernel_rfl) (by simp) ?_)
  simp
  by_cases h1 : 40 < (n.edges.length : Int)
  · simp [h1]
    refine ⟨fun a b => ⟨a, b⟩, GTK.callW (fun h => nomatch h) (ys := []) (r := .bool true) ?_⟩
    simp [h1]
    refine TS.callW T_live16 .nil ?_
    simp
  by_cases h2 : 20 < (n.scan.length : Int)
  · simp [h1, h2]
    refine ⟨fun a b => ⟨a, b⟩, GTK.callW (fun h => nomatch h) (ys := []) (r := .bool true) ?_⟩
    simp [h1, h2]
    refine TS.callW T_live16 .nil ?_
    simp
  simp [h1, h2]
  refine ⟨fun a b => ⟨a, b⟩, GTK.callW (fun _ => ⟨km, .cons (.agg (.cons (.self (by simp)) (.cons (.sl .nil) (.cons (.self rfl) (.cons (.self rfl) (.cons (.self rfl) (.cons (.self rfl) (.cons (.self rfl) (.cons (.self rfl) (.cons (.self rfl) (.cons (.self rfl) (.cons (.sl .nil) (.cons (.self (by simp)) .nil))))))))))))) .nil⟩) ?_⟩
  cases hm : muchQ ⟨n.rest, [], zE, n.whr⟩ with
  | true =>
    simp [h1, h2]
    refine TS.callW T_live16 .nil ?_
    simp
  | false =>
  have hlm := muchQ_len hm
  simp only at hlm
  simp [h1, h2]
  refine vc_loop (fun i : Nat => n.scan.length - i) (fun i e H => e 1 = .int .i64 t ∧ e 2 = .int .i64 c ∧ e 3 = .int .i64 u ∧ e 4 = .int .i64 d ∧ e 5 = .ptr 0 0 ∧ e 11 = .int .i64 i ∧ i ≤ n.scan.length ∧ (∀ l, l ∈ n.scan.take i → l.length ≤ 20) ∧ H = [.box n.cs]) 0 ?_ ?_
  · simp
  rintro i e H ⟨e1, e2, e3, e4, e5, e11, hil, hlo, rfl⟩
  by_cases hlt : i < n.scan.length
  · have ew := wrap_next hlt (by omega)
    have kq := T_muchQ ⟨n.scan[i], [], zE, []⟩ ⟨hi.sl _ (List.getElem_mem hlt), by simp, by simp, zE_ok, OkL.nil⟩
    simp [e1, e2, e3, e4, e5, e11, hlt]
    refine TS.callW kq (.cons (.agg (.cons (.self (by simp)) (.cons (.sl .nil) (.cons (.self rfl) (.cons (.self rfl) (.cons (.self rfl) (.cons (.self rfl) (.cons (.self rfl) (.cons (.self rfl) (.cons (.self rfl) (.cons (.self rfl) (.cons (.sl .nil) (.cons (.sl .nil) .nil))))))))))))) .nil) ?_
    cases hq : muchQ ⟨n.scan[i], [], zE, []⟩ with
    | true =>
      simp [e1, e2, e3, e4, e5, e11, hlt]
      refine TS.callW T_live16 .nil ?_
      simp
    | false =>
      have hql := muchQ_len hq
      simp only at hql
      simp [e1, e2, e3, e4, e5, e11, hlt]
      refine ⟨i + 1, by omega, ew, by omega, fun l hl => ?_⟩
      rw [take_next hlt, List.mem_append, List.mem_singleton] at hl
      rcases hl with hl | rfl
      · exact hlo l hl
      · exact hql.1
  have hil2 : i = n.scan.length := by omega
  subst hil2
  rw [List.take_length] at hlo
  have sm : SmN n := ⟨by omega, hlo, by omega, by omega, by omega⟩
  have hcl : (clsE n.edges).length = 128 := by unfold clsE; rw [plR_len]; simp
  have kc := S_classes [.box n.cs] n (by omega)
  simp [e1, e2, e3, e4, e5, e11]
  refine TS.ptE kc ?_
  clear kc
  rintro x H ⟨rfl, hu, hfr⟩
  have hb : At0 n H := hfr 0 (by simp)
  clear hfr
  simp [e1, e2, e3, e4, e5]
  refine TS.callW (T_rnew 128 (by omega)) (Dws.self (by simp)) ?_
  simp [e1, e2, e3, e4, e5]
  refine vc_loop (fun i : Nat => n.edges.length - i) (fun i e H => e 1 = .int .i64 t ∧ e 2 = .int .i64 c ∧ e 3 = .int .i64 u ∧ e 4 = .int .i64 d ∧ e 5 = .ptr 0 0 ∧ e 12 = .ptr 2 0 ∧ e 13 = .sl .no (nats' (plR (List.range 128) (prE (n.edges.take i)))) ∧ e 14 = .int .i64 i ∧ i ≤ n.edges.length ∧ At0 n H ∧ UfRef H 2 3 128 (clsE n.edges)) 0 ?_ ?_
  · simp [prE, plR, e1, e2, e3, e4, e5]
    exact ⟨hb, hu⟩
  clear hb hu e1 e2 e3 e4 e5 e11 H hlt hil e
  rintro i e H ⟨e1, e2, e3, e4, e5, e12, e13, e14, hil, hb, hu⟩
  have hb0 := hb
  unfold At0 at hb0
  have hb1 : ∀ Y : List HO, (H ++ Y)[0]? = some (.box n.cs) := fun Y => getElem?_app hb0
  by_cases hlt : i < n.edges.length
  · have ew := wrap_next hlt (by omega)
    have hpl : (plR (List.range 128) (prE (n.edges.take i))).length = 128 := by rw [plR_len]; simp
    have kj := T_rjoin (plR (List.range 128) (prE (n.edges.take i))) (colN n.edges[i].a n.edges[i].ac) (colN n.edges[i].b n.edges[i].bc) (by omega)
    rw [← prE_next hlt] at kj
    obtain ⟨r1, hr1⟩ : ∃ r1, r1 = plR (List.range 128) (prE (n.edges.take i)) := ⟨_, rfl⟩
    obtain ⟨r2, hr2⟩ : ∃ r2, r2 = plR (List.range 128) (prE (n.edges.take (i + 1))) := ⟨_, rfl⟩
    rw [← hr1] at kj e13
    rw [← hr2] at kj
    simp [e1, e2, e3, e4, e5, e12, e13, e14, hlt, hb0, hb1]
    refine TDK.callW (T_rcolumn _ _) (Dws.self (by simp)) ?_
    simp [e1, e2, e3, e4, e5, e12, e13, e14, hlt, hb0, hb1]
    refine TDK.callW (T_rcolumn _ _) (Dws.self (by simp)) ?_
    simp [e1, e2, e3, e4, e5, e12, e13, e14, hlt, hb0, hb1]
    refine TDK.callW kj (Dws.self (by simp)) ?_
    simp [e1, e2, e3, e4, e5, e12, e13, e14, hlt, hb0, hb1]
    exact ⟨i + 1, by omega, by rw [hr2], ew, by omega, hb.app _, hu.app⟩
  have hil2 : i = n.edges.length := by omega
  subst hil2
  rw [List.take_length] at e13
  change e 13 = .sl .no (nats' (clsE n.edges)) at e13
  obtain ⟨r, hr⟩ : ∃ r, r = clsE n.edges := ⟨_, rfl⟩
  rw [← hr] at e13 hu hcl
  have ha := colN_lt t c
  have hbn := colN_lt u d
  simp [e1, e2, e3, e4, e5, e12, e13, e14, hb0]
  refine TS.callW (T_rcolumn _ _) (Dws.self (by simp)) ?_
  simp [e1, e2, e3, e4, e5, e12, e13, e14, hb0]
  refine TS.callW (T_rcolumn _ _) (Dws.self (by simp)) ?_
  obtain ⟨a, ea⟩ : ∃ a, a = colN t c := ⟨_, rfl⟩
  obtain ⟨b, eb⟩ : ∃ b, b = colN u d := ⟨_, rfl⟩
  rw [← ea] at ha ⊢
  rw [← eb] at hbn ⊢
  have knc := T_ncolumn t c
  rw [← ea] at knc
  obtain ⟨H2, ks, kl, hb2⟩ := same_len a b hu hb
  have hb3 := hb2
  unfold At0 at hb3
  have kn := T_nall n sm
  have kr := T_rall16 n sm
  have ka := T_sameAll1 (allN n) (allN_ok hi sm)
  by_cases ha0 : 0 ≤ a
  · by_cases hb0' : 0 ≤ b
    · obtain ⟨na, rfl⟩ := Int.eq_ofNat_of_zero_le ha0
      obtain ⟨nb, rfl⟩ := Int.eq_ofNat_of_zero_le hb0'
      have ha1 : na < 128 := by omega
      have hb1 : nb < 128 := by omega
      have ha2 : na < r.length := by omega
      have hb2 : nb < r.length := by omega
      have ha3 : (na : Int) < 128 := by omega
      have hb4 : (nb : Int) < 128 := by omega
      have hsm : smR 128 (fun k => r.getD k 0) na nb = decide ((r[na] : Int) = r[nb]) := by
        unfold smR inR' fvR
        simp [ha1, hb1, ha2, hb2, ha3, hb4]
      rw [hsm] at ks
      simp [e1, e2, e3, e4, e5, e12, e13, e14, hb0, hcl, ha1, hb1, ha2, hb2, ha3, hb4]
      refine TDK.callW knc (Dws.self (by simp)) ?_
      simp [e1, e2, e3, e4, e5, e12, e13, e14, hb0, hcl, ha1, hb1, ha2, hb2, ha3, hb4]
      refine TWG.call (r := .opt true (.bool (decide ((r[na] : Int) = r[nb])))) (H' := H2) ?_ ?_
      · simp [e1, e2, e3, e4, e5, e12, e13, e14, hb0, hcl, ha1, hb1, ha2, hb2, ha3, hb4]
        exact GTK.yes (TS.pt ks ⟨rfl, rfl⟩)
      simp [e1, e2, e3, e4, e5, e12, e13, e14, hb0, hcl, ha1, hb1, ha2, hb2, ha3, hb4]
      refine TWG.call (r := .opt true (.int .i64 128)) (H' := H2) ?_ ?_
      · simp [e1, e2, e3, e4, e5, e12, e13, e14, hb0, hcl, ha1, hb1, ha2, hb2, ha3, hb4]
        exact GTK.yes (TS.pt kl ⟨rfl, rfl⟩)
      simp [e1, e2, e3, e4, e5, e12, e13, e14, hb0, hcl, hb3, ha1, hb1, ha2, hb2, ha3, hb4]
      refine GTK.callW (fun _ => ⟨kn, Dws.self (by simp)⟩) ?_
      simp [e1, e2, e3, e4, e5, e12, e13, e14, hb0, hcl, hb3, ha1, hb1, ha2, hb2, ha3, hb4]
      refine GTK.callW (fun _ => ⟨kr, Dws.self (by simp)⟩) ?_
      simp [e1, e2, e3, e4, e5, e12, e13, e14, hb0, hcl, hb3, ha1, hb1, ha2, hb2, ha3, hb4]
      refine GTK.callW (fun _ => ⟨ka, Dws.self (by simp)⟩) ?_
      simp [e1, e2, e3, e4, e5, e12, e13, e14, hb0, hcl, hb3, ha1, hb1, ha2, hb2, ha3, hb4]
      refine GTK.callW (fun _ => ⟨T_live16, .nil⟩) ?_
      simp
    · obtain ⟨na, rfl⟩ := Int.eq_ofNat_of_zero_le ha0
      have ha1 : na < 128 := by omega
      have ha2 : na < r.length := by omega
      have ha3 : (na : Int) < 128 := by omega
      have hsm : smR 128 (fun k => r.getD k 0) na b = false := by
        unfold smR inR' fvR
        simp [ha1, ha2, ha3, hb0']
      rw [hsm] at ks
      obtain ⟨rb, hrb⟩ : ∃ v, r[b.toNat]? = some v := ⟨_, List.getElem?_eq_getElem (by omega)⟩
      simp [e1, e2, e3, e4, e5, e12, e13, e14, hb0, hcl, ha1, ha2, ha3, hb0', hrb]
      refine TDK.callW knc (Dws.self (by simp)) ?_
      simp [e1, e2, e3, e4, e5, e12, e13, e14, hb0, hcl, ha1, ha2, ha3, hb0', hrb]
      refine TWG.call (r := .opt true (.bool false)) (H' := H2) ?_ ?_
      · simp [e1, e2, e3, e4, e5, e12, e13, e14, hb0, hcl, ha1, ha2, ha3, hb0', hrb]
        exact GTK.yes (TS.pt ks ⟨rfl, rfl⟩)
      simp [e1, e2, e3, e4, e5, e12, e13, e14, hb0, hcl, ha1, ha2, ha3, hb0', hrb]
      refine TWG.call (r := .opt true (.int .i64 128)) (H' := H2) ?_ ?_
      · simp [e1, e2, e3, e4, e5, e12, e13, e14, hb0, hcl, ha1, ha2, ha3, hb0', hrb]
        exact GTK.yes (TS.pt kl ⟨rfl, rfl⟩)
      simp [e1, e2, e3, e4, e5, e12, e13, e14, hb0, hcl, hb3, ha1, ha2, ha3, hb0', hrb]
      refine GTK.callW (fun _ => ⟨kn, Dws.self (by simp)⟩) ?_
      simp [e1, e2, e3, e4, e5, e12, e13, e14, hb0, hcl, hb3, ha1, ha2, ha3, hb0', hrb]
      refine GTK.callW (fun _ => ⟨kr, Dws.self (by simp)⟩) ?_
      simp [e1, e2, e3, e4, e5, e12, e13, e14, hb0, hcl, hb3, ha1, ha2, ha3, hb0', hrb]
      refine GTK.callW (fun _ => ⟨ka, Dws.self (by simp)⟩) ?_
      simp [e1, e2, e3, e4, e5, e12, e13, e14, hb0, hcl, hb3, ha1, ha2, ha3, hb0', hrb]
      refine GTK.callW (fun _ => ⟨T_live16, .nil⟩) ?_
      simp
  · have hsm : smR 128 (fun k => r.getD k 0) a b = false := by
      unfold smR inR' fvR
      simp [ha0]
    rw [hsm] at ks
    obtain ⟨rb, hrb⟩ : ∃ v, r[b.toNat]? = some v := ⟨_, List.getElem?_eq_getElem (by omega)⟩
    obtain ⟨ra, hra⟩ : ∃ v, r[a.toNat]? = some v := ⟨_, List.getElem?_eq_getElem (by omega)⟩
    simp [e1, e2, e3, e4, e5, e12, e13, e14, hb0, hcl, ha0, hra, hrb]
    refine TDK.callW knc (Dws.self (by simp)) ?_
    simp [e1, e2, e3, e4, e5, e12, e13, e14, hb0, hcl, ha0, hra, hrb]
    refine TWG.call (r := .opt true (.bool false)) (H' := H2) ?_ ?_
    · simp [e1, e2, e3, e4, e5, e12, e13, e14, hb0, hcl, ha0, hra, hrb]
      exact GTK.yes (TS.pt ks ⟨rfl, rfl⟩)
    simp [e1, e2, e3, e4, e5, e12, e13, e14, hb0, hcl, ha0, hra, hrb]
    refine TWG.call (r := .opt true (.int .i64 128)) (H' := H2) ?_ ?_
    · simp [e1, e2, e3, e4, e5, e12, e13, e14, hb0, hcl, ha0, hra, hrb]
      exact GTK.yes (TS.pt kl ⟨rfl, rfl⟩)
    simp [e1, e2, e3, e4, e5, e12, e13, e14, hb0, hcl, hb3, ha0, hra, hrb]
    refine GTK.callW (fun _ => ⟨kn, Dws.self (by simp)⟩) ?_
    simp [e1, e2, e3, e4, e5, e12, e13, e14, hb0, hcl, hb3, ha0, hra, hrb]
    refine GTK.callW (fun _ => ⟨kr, Dws.self (by simp)⟩) ?_
    simp [e1, e2, e3, e4, e5, e12, e13, e14, hb0, hcl, hb3, ha0, hra, hrb]
    refine GTK.callW (fun _ => ⟨ka, Dws.self (by simp)⟩) ?_
    simp [e1, e2, e3, e4, e5, e12, e13, e14, hb0, hcl, hb3, ha0, hra, hrb]
    refine GTK.callW (fun _ => ⟨T_live16, .nil⟩) ?_
    simp
theorem S_NormClasses {xs : List AV} (h : ShA Try.prog [68, 3, 3, 3, 3] xs) : T Try.prog 7 xs (.bool true) := by
  obtain ⟨y, r, rfl, h0, h⟩ := h.cons_of ag_68
  obtain ⟨y, r, rfl, h1, h⟩ := h.cons_of ag_3
  obtain ⟨y, r, rfl, h2, h⟩ := h.cons_of ag_3
  obtain ⟨y, r, rfl, h3, h⟩ := h.cons_of ag_3
  obtain ⟨y, r, rfl, h4, h⟩ := h.cons_of ag_3
  obtain rfl := h.nil_of
  obtain ⟨n, rfl, hn⟩ := Nrm_in h0
  obtain ⟨t, rfl, _⟩ := h1.int_of un_3
  obtain ⟨c, rfl, _⟩ := h2.int_of un_3
  obtain ⟨u, rfl, _⟩ := h3.int_of un_3
  obtain ⟨d, rfl, _⟩ := h4.int_of un_3
  exact T_NormClasses n t c u d hn
end Go.Proofs.Ytcjfjoilgnlemaa.PL
