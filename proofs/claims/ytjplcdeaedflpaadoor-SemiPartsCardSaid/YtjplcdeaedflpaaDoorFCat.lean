/- Lists of numbers put together by the library. -/
import Derived.Test.YtjplcdeaedflpaaDoorFGraph3
import Derived.Test.YtjplcdeaedflpaaDoorLayI
namespace Go.Proofs.YtjplcdeaedflpaaDoor.PL
open Go.Proofs
set_option linter.unusedVariables false
set_option linter.unusedSimpArgs false
def Gh.addTC (Γ : Gh) (i b cap : Nat) : Gh := { Γ with T := fun j m => if j = i ∧ m = 0 then some (b, cap) else Γ.T j m }
theorem S_growNoneC (H : List HO) : TS Tryd.prog 53 [.sl .nil [], .int .i64 0] H (pt (.sl .nil []) H) := by
  intro w0 Γ w vs hr hv
  cases hv with
  | cons h t =>
  cases t with
  | cons h2 t =>
  cases t
  cases h2
  cases h with
  | sl hn hs h1 h hi ho hc => cases ho.2
  | sl0 ho =>
    obtain ⟨rfl, rfl⟩ := ho
    refine .inl ⟨⟨_, Tryd.func53, by kernel_rfl, by kernel_rfl⟩, (Any8.slices_Grow_room Tryd.laysGrowI none 0 0 0 w (by omega) (by omega) (by omega) (by omega)).mono ?_⟩
    rintro e' w' ⟨rfl, rfl⟩
    exact ⟨Γ, _, .sl .nil [], H, rfl, Gh.Le.refl _, .sl0 ⟨rfl, rfl⟩, hr, rfl, rfl⟩
theorem S_growIC (H : List HO) (n : Nat) (hn : 0 < n) (hb : n ≤ 1000000) : TS Tryd.prog 53 [.sl .nil [], .int .i64 n] H (pt (.sl (.tok H.length) []) (H ++ [.spare 0 1])) := by
  intro w0 Γ w vs hr hv
  cases hv with
  | cons h t =>
  cases t with
  | cons h2 t =>
  cases t
  cases h2
  cases h with
  | sl hn hs h1 h hi ho hc => cases ho.2
  | sl0 ho =>
    obtain ⟨rfl, rfl⟩ := ho
    have hsome : (Tryd.prog.info? 3).isSome = true := by kernel_rfl
    have hi0 : Tryd.prog.info? 3 = some ((Tryd.prog.info? 3).get hsome) := (Option.some_get _).symm
    have hsz : ((Tryd.prog.info? 3).get hsome).size = 1 := by kernel_rfl
    have hby : ((Tryd.prog.info? 3).get hsome).bytes = 8 := by kernel_rfl
    have hzr : ((Tryd.prog.info? 3).get hsome).zero = some (.int .i64 0) := by kernel_rfl
    generalize (Tryd.prog.info? 3).get hsome = i0 at *
    refine .inl ⟨⟨_, Tryd.func53, by kernel_rfl, by kernel_rfl⟩, (Any8.slices_Grow_grow Tryd.laysGrowI i0 (.int .i64 0) hi0 hzr (by omega) none 0 0 n [] w (by omega) (by omega) (by rw [hby]; omega) (by omega) (by simp) (fun _ => rfl) (fun a h => by cases h)).mono ?_⟩
    rintro e' w' ⟨rfl, rfl⟩
    have hG1 := grownCap_ge w (0 + n) 0 3
    have hG2 := grownCap_le_maxLen w (0 + n) 0 3 (by unfold maxLen; omega)
    obtain ⟨G, hG⟩ : ∃ G, G = grownCap w (0 + n) 0 3 := ⟨_, rfl⟩
    rw [show Tryd.laysGrowI_ren.t 25 = 3 from rfl]
    rw [← hG] at hG1 hG2 ⊢
    have le : Gh.Le Γ (Γ.addTC H.length w.heap.size G) := ⟨fun _ _ _ h => h, fun _ _ h => h, fun t m p h => by
      simp only [Gh.addTC]
      split
      · rename_i hh
        have := (hr.fresh H.length (Nat.le_refl _)).2 m
        rw [hh.1, this] at h
        cases h
      · exact h⟩
    refine ⟨Γ.addTC H.length w.heap.size G, _, .sl (.tok H.length) [], H ++ [.spare 0 1], rfl, le, .sl0 ⟨w.heap.size, rfl, by simp [Gh.addTC]⟩, ?_, rfl, rfl⟩
    refine hr.push (.spare 0 1) w.heap.size (((Go.RowKit.Below.refl _ _).drew).alloc (Nat.le_refl _) _) le (Nat.le_refl _) (fun _ => ?_) (fun c o v h => .inl h) (fun _ _ => rfl) (fun k hk => by funext m; simp [Gh.addTC, hk]) rfl
    refine ⟨⟨G, _, _, by simp [Gh.addTC], heap_new w.drew _, ?_, hG2, by omega⟩, fun o _ => hr.noI o, fun m hm => ?_⟩
    · simp [Builtin.zeroCells]
      have hc : (Value.int .i64 0).cells.size = 1 := rfl
      rw [hc]
      omega
    · have : ¬ m = 0 := by omega
      simp [Gh.addTC, this]
      exact (hr.fresh H.length (Nat.le_refl _)).2 m
abbrev listsC (h : List (List Int)) : List AV := avs (slA (AV.int .i64)) h
/-- all numbers of some lists -/
def catI (h : List (List Int)) : List Int := h.flatMap id
theorem catI_next {h : List (List Int)} {i : Nat} (hi : i < h.length) : catI (h.take (i + 1)) = catI (h.take i) ++ h[i] := by
  unfold catI
  rw [take_next hi, List.flatMap_append]
  simp
theorem catI_le {h : List (List Int)} (hs : ∀ l, l ∈ h → l.length ≤ 1000) : (catI h).length ≤ 1000 * h.length := by
  induction h with
  | nil => simp [catI]
  | cons a h ih =>
    have h1 := hs a List.mem_cons_self
    have h2 := ih fun l hl => hs l (List.mem_cons_of_mem _ hl)
    have : catI (a :: h) = a ++ catI h := by simp [catI]
    rw [this, List.length_append, List.length_cons]
    omega
def GrowC (sz : Nat) (H : List HO) (x : AV) (xs : List AV) : Prop := (xs = [] ∧ (x = .sl .nil [] ∨ x = .sl .exact [])) ∨ ∃ t, x = .sl (.tok t) xs ∧ H[t]? = some (.spare xs.length sz)
theorem GrowC.own {sz : Nat} {H : List HO} {x : AV} {xs : List AV} (h : GrowC sz H x xs) : ∃ own, x = .sl own xs := by
  rcases h with ⟨rfl, h | h⟩ | ⟨t, h, _⟩
  · exact ⟨_, h⟩
  · exact ⟨_, h⟩
  · exact ⟨_, h⟩
theorem T_concatC (h : List (List Int)) (hn : h.length ≤ 1000) (hs : ∀ l, l ∈ h → l.length ≤ 1000) : T Tryd.prog 40 [.sl .no (listsC h)] (.sl .no (ints' (catI h))) := by
  have hcl := catI_le hs
  refine T.introF (TS.body mix Tryd.func40 (by kernel_rfl) rfl (by kernel_rfl) (by simp) ?_)
  simp
  refine vc_loop (fun i : Nat => h.length - i) (fun i e H => e 0 = .sl .no (listsC h) ∧ e 3 = .int .i64 (catI (h.take i)).length ∧ e 9 = .sl .no (listsC h) ∧ e 10 = .int .i64 h.length ∧ e 11 = .int .i64 i ∧ i ≤ h.length ∧ H = []) 0 ?_ ?_
  · simp [catI]
  rintro i e H ⟨e0, e3, e9, e10, e11, hi, rfl⟩
  have hci : (catI (h.take i)).length ≤ 1000 * i := by
    have := catI_le (h := h.take i) fun l hl => hs l (List.mem_of_mem_take hl)
    rw [List.length_take] at this
    omega
  by_cases hlt : i < h.length
  · have ew := wrap_next hlt (by omega)
    have hli := hs _ (List.getElem_mem hlt)
    have ec : IntKind.i64.wrap (((catI (h.take i)).length : Int) + (h[i]).length) = ((catI (h.take (i + 1))).length : Int) := by
      rw [wrap_i64 (by omega) (by omega), catI_next hlt, List.length_append]
      simp
    have hneg : ¬ (((catI (h.take (i + 1))).length : Int) < 0) := by omega
    simp [e0, e3, e9, e10, e11, hlt, ec, hneg]
    exact ⟨i + 1, by omega, rfl, ew, by omega⟩
  have hil : i = h.length := by omega
  subst hil
  rw [List.take_length] at e3
  have hgo : ∀ (x : AV) (H0 : List HO), GrowC 1 H0 x (ints' []) → TS Tryd.prog 53 [.sl .nil [], .int .i64 (catI h).length] [] (pt x H0) → True := fun _ _ _ _ => trivial
  obtain ⟨x, H0, hg, hG⟩ : ∃ (x : AV) (H0 : List HO), GrowC 1 H0 x (ints' []) ∧ TS Tryd.prog 53 [.sl .nil [], .int .i64 (catI h).length] [] (pt x H0) := by
    by_cases h0 : (catI h).length = 0
    · rw [h0]; exact ⟨_, _, .inl ⟨rfl, .inl rfl⟩, S_growNoneC []⟩
    · exact ⟨_, _, .inr ⟨0, rfl, rfl⟩, S_growIC [] _ (by omega) (by omega)⟩
  simp [e0, e3, e9, e10, e11]
  refine TS.pt hG ?_
  simp [e0, e3, e9, e10, e11]
  clear e0 e3 e9 e10 e11 hi hlt hG hci hgo
  refine vc_loop (fun i : Nat => h.length - i) (fun i e H => ∃ x, e 6 = x ∧ e 25 = .sl .no (listsC h) ∧ e 26 = .int .i64 h.length ∧ e 27 = .int .i64 i ∧ i ≤ h.length ∧ GrowC 1 H x (ints' (catI (h.take i)))) 0 ?_ ?_
  · refine ⟨x, ?_⟩
    simp [catI]
    exact hg
  clear hg x H0
  rintro i e H ⟨x, e6, e25, e26, e27, hi, hg⟩
  have hci : (catI (h.take i)).length ≤ 1000 * i := by
    have := catI_le (h := h.take i) fun l hl => hs l (List.mem_of_mem_take hl)
    rw [List.length_take] at this
    omega
  by_cases hlt : i < h.length
  · have ew := wrap_next hlt (by omega)
    have hli := hs _ (List.getElem_mem hlt)
    have hnx := catI_next hlt
    rcases hg with ⟨ge, hx⟩ | ⟨t, rfl, ht⟩
    · rw [avs_eq_nil] at ge
      rw [ge, List.nil_append] at hnx
      by_cases hz : (h[i]).length = 0
      · have hz2 : h[i] = [] := List.eq_nil_of_length_eq_zero hz
        rcases hx with rfl | rfl <;> simp [e6, e25, e26, e27, hlt, hz2] <;> exact ⟨i + 1, by omega, ew, by omega, .inl ⟨by rw [hnx, hz2]; rfl, .inr rfl⟩⟩
      · have hz' : ¬ h[i] = [] := fun e => hz (by rw [e]; rfl)
        have hzp : 0 < (h[i]).length := by omega
        rcases hx with rfl | rfl <;> simp [e6, e25, e26, e27, hlt] <;> refine ⟨⟨by omega, by omega⟩, i + 1, by omega, ew, by omega, .inr ⟨H.length, by rw [hnx, ownAt_pos hzp], ?_⟩⟩ <;> rw [hnx] <;> simp [appJ, hz']
    · simp [e6, e25, e26, e27, hlt, ht]
      have htl := (List.getElem?_eq_some_iff.1 ht).1
      refine ⟨⟨by omega, by omega⟩, i + 1, by omega, ew, by omega, .inr ⟨t, by rw [hnx], ?_⟩⟩
      rw [List.getElem?_set_self htl, hnx]
      simp
  · have hil : i = h.length := by omega
    subst hil
    rw [List.take_length] at hg
    obtain ⟨own, rfl⟩ := hg.own
    simp [e6, e25, e26, e27]
    exact Frz.slN (f := AV.int .i64)
theorem T_verticesC (h : List (List Int)) (hn : h.length ≤ 1000) (hs : ∀ l, l ∈ h → l.length ≤ 1000) : T Tryd.prog 19 [.sl .no (listsC h)] (.sl .no (ints' (setI (catI h)))) := by
  have hcl := catI_le hs
  have k1 := T_concatC h hn hs
  have k2 := T_set (catI h) (by omega)
  refine T.intro (TS.body mix Tryd.func19 (by kernel_rfl) rfl (by kernel_rfl) (by simp) ?_)
  simp
  refine TS.callW k1 (Dws.self (by simp)) ?_
  simp
  refine TS.callW k2 (Dws.self (by simp)) ?_
  simp
end Go.Proofs.YtjplcdeaedflpaaDoor.PL
