/- Rows put together, and parts of them. -/
import Derived.Test.YtaahlhhpmooliaaDoorLay
import Derived.Test.YtaahlhhpmooliaaDoorFFind3
namespace Go.Proofs.YtaahlhhpmooliaaDoor.PL
open Go.Proofs
set_option linter.unusedVariables false
set_option linter.unusedSimpArgs false
instance : Selfs Val.av := ⟨fun a x h => by simp at h; rcases h with rfl | rfl | rfl <;> simp⟩
def Gh.addT0 (Γ : Gh) (i b cap : Nat) : Gh := { Γ with T := fun j m => if j = i ∧ m = 0 then some (b, cap) else Γ.T j m }
theorem S_growNone (H : List HO) : TS Tryd.prog 60 [.sl .nil [], .int .i64 0] H (pt (.sl .nil []) H) := by
  intro w0 Γ w vs hr hv
  cases hv with
  | cons h t =>
  cases t with
  | cons h2 t =>
  cases t
  cases h2
  cases h with
  | sl hn hs h1 h hi ho hc => cases ho.2
  | sl0 ho =>
    obtain ⟨rfl, rfl⟩ := ho
    refine .inl ⟨⟨_, Tryd.func60, by kernel_rfl, by kernel_rfl⟩, (Any8.slices_Grow_room Tryd.laysGrowV none 0 0 0 w (by omega) (by omega) (by omega) (by omega)).mono ?_⟩
    rintro e' w' ⟨rfl, rfl⟩
    exact ⟨Γ, _, .sl .nil [], H, rfl, Gh.Le.refl _, .sl0 ⟨rfl, rfl⟩, hr, rfl, rfl⟩
theorem S_growV (H : List HO) (n : Nat) (hn : 0 < n) (hb : n ≤ 1000000) : TS Tryd.prog 60 [.sl .nil [], .int .i64 n] H (pt (.sl (.tok H.length) []) (H ++ [.spare 0 3])) := by
  intro w0 Γ w vs hr hv
  cases hv with
  | cons h t =>
  cases t with
  | cons h2 t =>
  cases t
  cases h2
  cases h with
  | sl hn hs h1 h hi ho hc => cases ho.2
  | sl0 ho =>
    obtain ⟨rfl, rfl⟩ := ho
    have hsome : (Tryd.prog.info? 27).isSome = true := by kernel_rfl
    have hi0 : Tryd.prog.info? 27 = some ((Tryd.prog.info? 27).get hsome) := (Option.some_get _).symm
    have hsz : ((Tryd.prog.info? 27).get hsome).size = 3 := by kernel_rfl
    have hby : ((Tryd.prog.info? 27).get hsome).bytes = 32 := by kernel_rfl
    have hzs : (((Tryd.prog.info? 27).get hsome).zero).isSome = true := by kernel_rfl
    have hzr : ((Tryd.prog.info? 27).get hsome).zero = some ((((Tryd.prog.info? 27).get hsome).zero).get hzs) := (Option.some_get _).symm
    have hzc : ((((Tryd.prog.info? 27).get hsome).zero).get hzs).cells.size = 3 := by kernel_rfl
    generalize (((Tryd.prog.info? 27).get hsome).zero).get hzs = z at *
    generalize (Tryd.prog.info? 27).get hsome = i0 at *
    refine .inl ⟨⟨_, Tryd.func60, by kernel_rfl, by kernel_rfl⟩, (Any8.slices_Grow_grow Tryd.laysGrowV i0 z hi0 hzr (by omega) none 0 0 n [] w (by omega) (by omega) (by rw [hby]; omega) (by omega) (by simp) (fun _ => rfl) (fun a h => by cases h)).mono ?_⟩
    rintro e' w' ⟨rfl, rfl⟩
    have hG1 := grownCap_ge w (0 + n) 0 27
    have hG2 := grownCap_le_maxLen w (0 + n) 0 27 (by unfold maxLen; omega)
    obtain ⟨G, hG⟩ : ∃ G, G = grownCap w (0 + n) 0 27 := ⟨_, rfl⟩
    rw [show Tryd.laysGrowV_ren.t 25 = 27 from rfl]
    rw [← hG] at hG1 hG2 ⊢
    have le : Gh.Le Γ (Γ.addT0 H.length w.heap.size G) := ⟨fun _ _ _ h => h, fun _ _ h => h, fun t m p h => by
      simp only [Gh.addT0]
      split
      · rename_i hh
        have := (hr.fresh H.length (Nat.le_refl _)).2 m
        rw [hh.1, this] at h
        cases h
      · exact h⟩
    refine ⟨Γ.addT0 H.length w.heap.size G, _, .sl (.tok H.length) [], H ++ [.spare 0 3], rfl, le, .sl0 ⟨w.heap.size, rfl, by simp [Gh.addT0]⟩, ?_, rfl, rfl⟩
    refine hr.push (.spare 0 3) w.heap.size (((Go.RowKit.Below.refl _ _).drew).alloc (Nat.le_refl _) _) le (Nat.le_refl _) (fun _ => ?_) (fun c o v h => .inl h) (fun _ _ => rfl) (fun k hk => by funext m; simp [Gh.addT0, hk]) rfl
    refine ⟨⟨G, _, _, by simp [Gh.addT0], heap_new w.drew _, ?_, hG2, by omega⟩, fun o _ => hr.noI o, fun m hm => ?_⟩
    · simp [Builtin.zeroCells]
      rw [hzc]
      omega
    · have : ¬ m = 0 := by omega
      simp [Gh.addT0, this]
      exact (hr.fresh H.length (Nat.le_refl _)).2 m
/-- all numbers of some lists -/
def catV (h : List (List Val)) : List Val := h.flatMap id
theorem catV_next {h : List (List Val)} {i : Nat} (hi : i < h.length) : catV (h.take (i + 1)) = catV (h.take i) ++ h[i] := by
  unfold catV
  rw [take_next hi, List.flatMap_append]
  simp
theorem catV_le {h : List (List Val)} (hs : ∀ l, l ∈ h → l.length ≤ 1000) : (catV h).length ≤ 1000 * h.length := by
  induction h with
  | nil => simp [catV]
  | cons a h ih =>
    have h1 := hs a List.mem_cons_self
    have h2 := ih fun l hl => hs l (List.mem_cons_of_mem _ hl)
    have : catV (a :: h) = a ++ catV h := by simp [catV]
    rw [this, List.length_append, List.length_cons]
    omega
def GrowN (sz : Nat) (H : List HO) (x : AV) (xs : List AV) : Prop := (xs = [] ∧ (x = .sl .nil [] ∨ x = .sl .exact [])) ∨ ∃ t, x = .sl (.tok t) xs ∧ H[t]? = some (.spare xs.length sz)
theorem GrowN.own {sz : Nat} {H : List HO} {x : AV} {xs : List AV} (h : GrowN sz H x xs) : ∃ own, x = .sl own xs := by
  rcases h with ⟨rfl, h | h⟩ | ⟨t, h, _⟩
  · exact ⟨_, h⟩
  · exact ⟨_, h⟩
  · exact ⟨_, h⟩
theorem T_concatV (h : List (List Val)) (hn : h.length ≤ 1000) (hs : ∀ l, l ∈ h → l.length ≤ 1000) : T Tryd.prog 42 [.sl .no (rows' h)] (.sl .no (vals' (catV h))) := by
  have hcl := catV_le hs
  refine T.introF (TS.body mix Tryd.func42 (by kernel_rfl) rfl (by kernel_rfl) (by simp) ?_)
  simp
  refine vc_loop (fun i : Nat => h.length - i) (fun i e H => e 0 = .sl .no (rows' h) ∧ e 3 = .int .i64 (catV (h.take i)).length ∧ e 9 = .sl .no (rows' h) ∧ e 10 = .int .i64 h.length ∧ e 11 = .int .i64 i ∧ i ≤ h.length ∧ H = []) 0 ?_ ?_
  · simp [catV]
  rintro i e H ⟨e0, e3, e9, e10, e11, hi, rfl⟩
  have hci : (catV (h.take i)).length ≤ 1000 * i := by
    have := catV_le (h := h.take i) fun l hl => hs l (List.mem_of_mem_take hl)
    rw [List.length_take] at this
    omega
  by_cases hlt : i < h.length
  · have ew := wrap_next hlt (by omega)
    have hli := hs _ (List.getElem_mem hlt)
    have ec : IntKind.i64.wrap (((catV (h.take i)).length : Int) + (h[i]).length) = ((catV (h.take (i + 1))).length : Int) := by
      rw [wrap_i64 (by omega) (by omega), catV_next hlt, List.length_append]
      simp
    have hneg : ¬ (((catV (h.take (i + 1))).length : Int) < 0) := by omega
    simp [e0, e3, e9, e10, e11, hlt, ec, hneg]
    exact ⟨i + 1, by omega, rfl, ew, by omega⟩
  have hil : i = h.length := by omega
  subst hil
  rw [List.take_length] at e3
  have hgo : ∀ (x : AV) (H0 : List HO), GrowN 3 H0 x (vals' []) → TS Tryd.prog 60 [.sl .nil [], .int .i64 (catV h).length] [] (pt x H0) → True := fun _ _ _ _ => trivial
  obtain ⟨x, H0, hg, hG⟩ : ∃ (x : AV) (H0 : List HO), GrowN 3 H0 x (vals' []) ∧ TS Tryd.prog 60 [.sl .nil [], .int .i64 (catV h).length] [] (pt x H0) := by
    by_cases h0 : (catV h).length = 0
    · rw [h0]; exact ⟨_, _, .inl ⟨rfl, .inl rfl⟩, S_growNone []⟩
    · exact ⟨_, _, .inr ⟨0, rfl, rfl⟩, S_growV [] _ (by omega) (by omega)⟩
  simp [e0, e3, e9, e10, e11]
  refine TS.pt hG ?_
  simp [e0, e3, e9, e10, e11]
  clear e0 e3 e9 e10 e11 hi hlt hG hci hgo
  refine vc_loop (fun i : Nat => h.length - i) (fun i e H => ∃ x, e 6 = x ∧ e 25 = .sl .no (rows' h) ∧ e 26 = .int .i64 h.length ∧ e 27 = .int .i64 i ∧ i ≤ h.length ∧ GrowN 3 H x (vals' (catV (h.take i)))) 0 ?_ ?_
  · refine ⟨x, ?_⟩
    simp [catV]
    exact hg
  clear hg x H0
  rintro i e H ⟨x, e6, e25, e26, e27, hi, hg⟩
  have hci : (catV (h.take i)).length ≤ 1000 * i := by
    have := catV_le (h := h.take i) fun l hl => hs l (List.mem_of_mem_take hl)
    rw [List.length_take] at this
    omega
  by_cases hlt : i < h.length
  · have ew := wrap_next hlt (by omega)
    have hli := hs _ (List.getElem_mem hlt)
    have hnx := catV_next hlt
    rcases hg with ⟨ge, hx⟩ | ⟨t, rfl, ht⟩
    · rw [avs_eq_nil] at ge
      rw [ge, List.nil_append] at hnx
      by_cases hz : (h[i]).length = 0
      · have hz2 : h[i] = [] := List.eq_nil_of_length_eq_zero hz
        rcases hx with rfl | rfl <;> simp [e6, e25, e26, e27, hlt, hz2] <;> exact ⟨i + 1, by omega, ew, by omega, .inl ⟨by rw [hnx, hz2]; rfl, .inr rfl⟩⟩
      · have hz' : ¬ h[i] = [] := fun e => hz (by rw [e]; rfl)
        have hzp : 0 < (h[i]).length := by omega
        rcases hx with rfl | rfl <;> simp [e6, e25, e26, e27, hlt] <;> refine ⟨⟨by omega, by omega⟩, i + 1, by omega, ew, by omega, .inr ⟨H.length, by rw [hnx, ownAt_pos hzp], ?_⟩⟩ <;> rw [hnx] <;> simp [appJ, hz']
    · simp [e6, e25, e26, e27, hlt, ht]
      have htl := (List.getElem?_eq_some_iff.1 ht).1
      refine ⟨⟨by omega, by omega⟩, i + 1, by omega, ew, by omega, .inr ⟨t, by rw [hnx], ?_⟩⟩
      rw [List.getElem?_set_self htl, hnx]
      simp
  · have hil : i = h.length := by omega
    subst hil
    rw [List.take_length] at hg
    obtain ⟨own, rfl⟩ := hg.own
    simp [e6, e25, e26, e27]
    exact Frz.slN (f := Val.av)
end Go.Proofs.YtaahlhhpmooliaaDoor.PL
