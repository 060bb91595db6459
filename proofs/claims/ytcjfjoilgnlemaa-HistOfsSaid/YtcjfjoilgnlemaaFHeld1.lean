/- What is said of tables: a part of a list sorted; bounds. -/
import Derived.Test.YtcjfjoilgnlemaaFHist3
namespace Go.Proofs.Ytcjfjoilgnlemaa.PL
open Go.Proofs
set_option linter.unusedVariables false
set_option linter.unusedSimpArgs false
open Go.Sort in
theorem take_putP (cur : Array Value) (ts zs : List Int) (n : Nat) (hn : zs.length = n) (ht : ts.length ≤ n) (hc : n ≤ cur.size) (h : cur.toList.take n = zs.map (Value.int .i64)) : (putCells (Value.int .i64) 0 ts.toArray cur).toList.take n = (ts ++ zs.drop ts.length).map (Value.int .i64) := by
  apply List.ext_getElem?
  intro k
  by_cases hk : k < n
  · rw [List.getElem?_take_of_lt hk]
    have hkc : k < cur.size := by omega
    have h1 : (cur.toList.take n)[k]? = (zs.map (Value.int .i64))[k]? := by rw [h]
    rw [List.getElem?_take_of_lt hk] at h1
    have hkz : k < zs.length := by omega
    simp [hkc, hkz] at h1
    by_cases hkt : k < ts.length
    · simp [putCells, hkc, hkt, List.getElem?_append_left]
    · have h2 : ts.length + (k - ts.length) = k := by omega
      rw [List.getElem?_map, List.getElem?_append_right (by omega), List.getElem?_drop, h2]
      simp [putCells, hkc, hkt, hkz, h1]
  · rw [List.getElem?_eq_none (by simp; omega), List.getElem?_eq_none (by simp; omega)]
open Go.Sort in
theorem TS.sortP {P : Program} {f : FuncId} (hc : Callable P f)
    (hS : ∀ (blk off cap : Nat) (zs : List Int) (w : World), Holds (Value.int .i64) w blk off zs.toArray → blk < w.heap.size → zs.length < 4611686018427387904 →
      Calls P f #[.slice (some ⟨blk, off, none⟩) zs.length cap] w fun e w' => e = .returned (.tuple #[]) ∧ ∃ n os, w' = grow (putRow (Value.int .i64) (Sort.ahead w n) blk off (zs.mergeSort fun x y => decide (x ≤ y)).toArray) os)
    {H : List HO} {i n m : Nat} {zs : List Int} (hn : zs.length = n) (hm : m ≤ n) (hi : H[i]? = some (.row n 1 (ints' zs))) (hlen : n < 4611686018427387904) (h0 : 0 < m)
    {K : AV → List HO → Prop} (hk : K (.tup []) (H.set i (.row n 1 (ints' (PL.sortI (zs.take m) ++ zs.drop m))))) : TS P f [.mv i n 1 0 m] H K := by
  intro w0 Γ w vs hr hv
  cases hv with
  | cons h t =>
  cases t
  cases h with
  | @mv _ _ _ _ _ b' cap o hT hl hcap ho =>
  obtain ⟨b, hb0, hblt, hat, hput⟩ := hr.put hi rfl
  obtain ⟨⟨cap', cur, e, h1, h2, h3, h4, h5, h6⟩, h7, h8, h9⟩ := hat
  rw [hT] at h1
  simp only [Option.some.injEq, Prod.mk.injEq] at h1
  obtain ⟨rfl, rfl⟩ := h1
  obtain rfl : o = 0 := (ho (by omega)).trans (Nat.zero_mul _)
  have hv6 := VRs_ints_eq h6
  rw [Nat.mul_one] at hv6
  have htm : (zs.take m).length = m := by rw [List.length_take]; omega
  have hcl : (PL.sortI (zs.take m)).length = m := (sortI_len _).trans htm
  have hv7 : cur.toList.take (zs.take m).length = (zs.take m).map (Value.int .i64) := by
    rw [htm, List.map_take, ← hv6, List.take_take, Nat.min_eq_left hm]
  have hS' := hS b' 0 (cap - 0) (zs.take m) w (holds_of_blockI h2 hv7) hblt (by omega)
  rw [htm] at hS'
  refine .inl ⟨hc, hS'.mono ?_⟩
  rintro e' w' ⟨rfl, k, os, rfl⟩
  refine ⟨Γ, .tuple #[], .tup [], _, rfl, Gh.Le.refl _, .tup .nil, hput (.row n 1 (ints' (PL.sortI (zs.take m) ++ zs.drop m))) b' Γ _ (grownBy_sortedI _) (Gh.Le.refl _) (.inl rfl) (fun _ => ?_) ?_ (fun _ => rfl) (fun _ _ => rfl) rfl, hk⟩
  · refine ⟨⟨cap, _, e, hT, heap_sortedI _ h2, by simp [putCells, h3], h4, h5, ?_⟩, ?_, h8, h9⟩
    · have := take_putP cur (PL.sortI (zs.take m)) zs n hn (by omega) (by omega) hv6
      rw [hcl] at this
      rw [Nat.mul_one, this]
      exact VRs_ints _
    · intro x hx
      obtain ⟨a, ha, rfl⟩ := mem_avs.1 hx
      rfl
  · intro c o v hv
    refine .inl ⟨hv, ?_⟩
    rintro rfl
    rw [h8 o] at hv
    cases hv
theorem S_sortP {H : List HO} {i n m : Nat} {zs : List Int} (hn : zs.length = n) (hm : m ≤ n) (hi : H[i]? = some (.row n 1 (ints' zs))) (hlen : n < 4611686018427387904) (h0 : 0 < m) : TS Try.prog 62 [.mv i n 1 0 m] H (pt (.tup []) (H.set i (.row n 1 (ints' (sortI (zs.take m) ++ zs.drop m))))) :=
  TS.sortP ⟨_, Try.func62, by kernel_rfl, by kernel_rfl⟩ Try.slices_Sort_int hn hm hi hlen h0 ⟨rfl, rfl⟩
/-- a copy that may be written -/
theorem S_cloneH (H : List HO) (xs : List Int) (hl : xs.length ≤ 1000000) : TS Try.prog 68 [.sl .no (ints' xs)] H (fun r H' => (xs = [] ∧ r = .sl .exact [] ∧ H' = H) ∨ (0 < xs.length ∧ r = .mv H.length xs.length 1 0 xs.length ∧ H' = H ++ [.row xs.length 1 (ints' xs)])) := by
  refine TS.exd ?_
  refine TS.bodyM [7] mix Try.func68 (by kernel_rfl) rfl (by kernel_rfl) (by simp) ?_
  by_cases h0 : xs = []
  · subst h0
    simp [isSlT, un_22]
  · have hp : 0 < xs.length := List.length_pos_iff.2 h0
    simp [h0, hp]
    exact ⟨by simp [isSlT, un_22], by omega, by omega⟩
def nearF (n high : Int) : Int := max 0 (min n high)
def cutF (n : Int) : Int := max 0 (min n 4611686018427387904)
theorem T_near (n high : Int) : T Try.prog 61 [.int .i64 n, .int .i64 0, .int .i64 high] (.int .i64 (nearF n high)) := by
  refine T.intro (TS.body mix Try.func61 (by kernel_rfl) rfl (by kernel_rfl) (by simp) ?_)
  simp
  unfold nearF
  (repeat' split) <;> omega
theorem T_scut (n : Int) : T Try.prog 60 [.int .i64 n] (.int .i64 (cutF n)) := by
  refine T.intro (TS.body mix Try.func60 (by kernel_rfl) rfl (by kernel_rfl) (by simp) ?_)
  simp
  unfold cutF
  (repeat' split) <;> omega
theorem T_rnear27 (n high : Int) (h : 0 ≤ high) : T Try.prog 64 [.int .i64 n, .int .i64 high] (.int .i64 (nearF n high)) := by
  refine T.intro (TS.body mix Try.func64 (by kernel_rfl) rfl (by kernel_rfl) (by simp) ?_)
  simp
  unfold nearF
  refine condK_of (fun h1 => ?_) (fun h1 => ?_)
  · simp at h1
    simp
    omega
  simp at h1
  simp
  refine condK_of (fun h2 => ?_) (fun h2 => ?_)
  · simp at h2
    simp
    omega
  simp at h2
  simp
  omega
theorem T_rcut26 (n : Int) : T Try.prog 63 [.int .i64 n] (.int .i64 (cutF n)) := by
  refine T.intro (TS.body mix Try.func63 (by kernel_rfl) rfl (by kernel_rfl) (by simp) ?_)
  simp
  unfold cutF
  refine condK_of (fun h1 => ?_) (fun h1 => ?_)
  · simp at h1
    simp
    omega
  simp at h1
  simp
  refine condK_of (fun h2 => ?_) (fun h2 => ?_)
  · simp at h2
    simp
    omega
  simp at h2
  simp
  omega
end Go.Proofs.Ytcjfjoilgnlemaa.PL
