/- Numbers sorted by the library. -/
import Derived.Test.YtjplcdeaedflpaaDoorLay
import Derived.Test.YtjplcdeaedflpaaDoorFLib
import Derived.Sort.OwnSortedInts
namespace Go.Proofs.YtjplcdeaedflpaaDoor.PL
open Go.Proofs
set_option linter.unusedVariables false
set_option linter.unusedSimpArgs false
theorem VRs_ints {Γ : Gh} : ∀ (l : List Int), VRs Γ (ints' l) (l.map (Value.int .i64))
  | [] => .nil
  | x :: l => .cons (.int _ _) (VRs_ints l)
theorem VRs_ints_eq {Γ : Gh} : ∀ {l : List Int} {vs : List Value}, VRs Γ (ints' l) vs → vs = l.map (Value.int .i64)
  | [], _, h => by cases h; rfl
  | x :: l, _, h => by
    cases h with
    | cons h t => cases h; rw [VRs_ints_eq t]; rfl
abbrev sortI (l : List Int) : List Int := l.mergeSort fun x y => decide (x ≤ y)
theorem sortI_len (l : List Int) : (sortI l).length = l.length := List.length_mergeSort l
open Go.Sort in
theorem TS.sortI {P : Program} {f : FuncId} (hc : Callable P f)
    (hS : ∀ (blk off cap : Nat) (zs : List Int) (w : World), Holds (Value.int .i64) w blk off zs.toArray → blk < w.heap.size → zs.length < 4611686018427387904 →
      Calls P f #[.slice (some ⟨blk, off, none⟩) zs.length cap] w fun e w' => e = .returned (.tuple #[]) ∧ ∃ n os, w' = grow (putRow (Value.int .i64) (Sort.ahead w n) blk off (zs.mergeSort fun x y => decide (x ≤ y)).toArray) os)
    {H : List HO} {i : Nat} {zs : List Int} (hi : H[i]? = some (.row zs.length 1 (ints' zs))) (hlen : zs.length < 4611686018427387904) (h0 : 0 < zs.length)
    {K : AV → List HO → Prop} (hk : K (.tup []) (H.set i (.row zs.length 1 (ints' (PL.sortI zs))))) : TS P f [.mv i zs.length 1 0 zs.length] H K := by
  intro w0 Γ w vs hr hv
  cases hv with
  | cons h t =>
  cases t
  cases h with
  | @mv _ _ _ _ _ b' cap o hT hl hcap ho =>
  obtain ⟨b, hb0, hblt, hat, hput⟩ := hr.put hi rfl
  obtain ⟨⟨cap', cur, e, h1, h2, h3, h4, h5, h6⟩, h7, h8, h9⟩ := hat
  rw [hT] at h1
  simp only [Option.some.injEq, Prod.mk.injEq] at h1
  obtain ⟨rfl, rfl⟩ := h1
  obtain rfl : o = 0 := (ho (by omega)).trans (Nat.zero_mul _)
  have hv6 := VRs_ints_eq h6
  rw [Nat.mul_one] at hv6
  have hcl : (PL.sortI zs).length = zs.length := sortI_len zs
  refine .inl ⟨hc, (hS b' 0 (cap - 0) zs w (holds_of_blockI h2 hv6) hblt hlen).mono ?_⟩
  rintro e' w' ⟨rfl, n, os, rfl⟩
  refine ⟨Γ, .tuple #[], .tup [], _, rfl, Gh.Le.refl _, .tup .nil, hput (.row zs.length 1 (ints' (PL.sortI zs))) b' Γ _ (grownBy_sortedI _) (Gh.Le.refl _) (.inl rfl) (fun _ => ?_) ?_ (fun _ => rfl) (fun _ _ => rfl) rfl, hk⟩
  · refine ⟨⟨cap, _, e, hT, heap_sortedI _ h2, by simp [putCells, h3], h4, h5, ?_⟩, ?_, h8, h9⟩
    · rw [Nat.mul_one, ← hcl, take_putCellsI cur _ (by rw [hcl, h3]; omega)]
      exact VRs_ints _
    · intro x hx
      obtain ⟨a, ha, rfl⟩ := mem_avs.1 hx
      rfl
  · intro c o v hv
    refine .inl ⟨hv, ?_⟩
    rintro rfl
    rw [h8 o] at hv
    cases hv
theorem S_sortInts {H : List HO} {i n : Nat} {zs : List Int} (hn : zs.length = n) (hi : H[i]? = some (.row n 1 (ints' zs))) (hlen : n < 4611686018427387904) (h0 : 0 < n) : TS Tryd.prog 50 [.mv i n 1 0 n] H (pt (.tup []) (H.set i (.row n 1 (ints' (sortI zs))))) := by
  subst hn
  exact TS.sortI ⟨_, Tryd.func50, by kernel_rfl, by kernel_rfl⟩ Tryd.slices_Sort_int hi hlen h0 ⟨rfl, rfl⟩
theorem S_sortNone {H : List HO} {own : Own} : TS Tryd.prog 50 [.sl own []] H (pt (.tup []) H) := by
  intro w0 Γ w vs hr hv
  cases hv with
  | cons h t =>
  cases t
  have key : ∀ p cap, CallsX Tryd.prog 50 #[.slice p 0 cap] w fun e w' => ∃ Γ' v r H', e = .returned v ∧ Gh.Le Γ Γ' ∧ VR Γ' r v ∧ R w0 Γ' H' w' ∧ pt (.tup []) H r H' := fun p cap =>
    .inl ⟨⟨_, Tryd.func50, by kernel_rfl, by kernel_rfl⟩, (Tryd.slices_Sort_int_none p cap w).mono (by rintro e' w' ⟨rfl, rfl⟩; exact ⟨Γ, .tuple #[], .tup [], H, rfl, Gh.Le.refl _, .tup .nil, hr, rfl, rfl⟩)⟩
  cases h with
  | sl0 ho => exact key _ _
  | sl hn hs h1 h hi ho hc =>
    simp at hn
    subst hn
    exact key _ _
end Go.Proofs.YtjplcdeaedflpaaDoor.PL
