/- slices.AppendSeq on what slices.Values tells. -/
import Derived.Test.YtcjfjoilgnlemaaLayZ
import Derived.Test.YtcjfjoilgnlemaaFSort
import Derived.RangeFuncLeaves
import Derived.WalkKit
import Derived.OwnWalkIn
import Derived.TacticsInMore
import Derived.LoopNIn
import Derived.LoopIn
namespace Go.Proofs.Ytcjfjoilgnlemaa.PL
open Go.Proofs Go.RowKit Go.Maps Go.Sort Go.Shelf
set_option linter.unusedVariables false
set_option linter.unusedSimpArgs false
attribute [local go_sem] Oper.semAt_some
/-- what has come when some rounds are over -/
def uptoV (f : Nat → Int) (k : Nat) : List Int := (List.range k).map f
theorem uptoV_succ (f : Nat → Int) (k : Nat) : uptoV f (k + 1) = uptoV f k ++ [f k] := by simp [uptoV, List.range_succ]
theorem uptoV_length (f : Nat → Int) (k : Nat) : (uptoV f k).length = k := by simp [uptoV]
theorem uptoV_all (zs : List Int) : uptoV (fun j => zs[j]?.getD 0) zs.length = zs := by
  apply List.ext_getElem
  · simp [uptoV]
  · intro i h1 h2
    simp [uptoV, h2]
set_option maxRecDepth 100000 in
set_option maxHeartbeats 2000000 in
theorem vals1_in (F : Fence) (n : Nat) (h7 : F.fn 105) (hro : F.round = none) (hn : 1 ≤ n) (l Bs n₀ b off len cap : Nat) (zs : List Int) (hreach : len * 8 ≤ 140737488351232) (hb : b < n₀) (hBn : Bs < n₀) (w : World) (J : List Int → World → Prop) (hJb : ∀ s W, J s W → Below n₀ w W)
    (hY : ∀ pre x W, J pre W → pre.length < len → YieldAt F (n - 1) Try.prog l #[.int .i64 x] W fun e W' => e = .returned (.bool true) ∧ J (pre ++ [x]) W' ∧ KeepsWalks W W')
    (W : World) (hBs0 : w.cell? ⟨Bs, 0, none⟩ = some (.slice (some ⟨b, off, none⟩) len cap)) (hc0 : ∀ j, j < len → w.cell? ⟨b, off + j, none⟩ = some (.int .i64 (zs[j]?.getD 0))) (h0 : J [] W) :
    CallsIn F n Try.prog 105 #[.func (.yield l) #[] #[], .pointer (some ⟨Bs, 0, none⟩)] W fun e W' => (∃ v, e = .returned v) ∧ J (uptoV (fun j => zs[j]?.getD 0) len) W' := by
  have hBs : W.cell? ⟨Bs, 0, none⟩ = some (.slice (some ⟨b, off, none⟩) len cap) := ((hJb _ _ h0).cell (p := ⟨Bs, 0, none⟩) hBn).trans hBs0
  refine callsIn_of_wp Try.func105 rfl h7 ?_ hro
  simp only [Try.ntmps105, List.size_toArray, List.length_cons, List.length_nil, Nat.reduceAdd, Nat.reduceSub, Array.replicate_succ, Array.replicate_zero, List.push_toArray, List.append_toArray, List.nil_append, List.cons_append]
  gi_wp2
  gi_loopw [7] (fun i wr => ∃ k : Nat, k ≤ len ∧ i = .int .i64 k ∧ J (uptoV (fun j => zs[j]?.getD 0) k) wr)
    (fun i _ => len - (intOf i).toNat)
  case atStart => exact ⟨0, Nat.zero_le _, rfl, h0⟩
  case round =>
    obtain ⟨k, hk, rfl, hJs⟩ := hrel
    have hcx : k < len → wr.cell? ⟨b, off + k, none⟩ = some (.int .i64 (zs[k]?.getD 0)) := fun h => ((hJb _ _ hJs).cell (p := ⟨b, off + k, none⟩) hb).trans (hc0 k h)
    by_cases hlt : k < len
    · obtain ⟨fn, tmps, assign, body, hy, hR⟩ := hY _ (zs[k]?.getD 0) wr hJs (by rw [uptoV_length]; exact hlt)
      have hcx' := hcx hlt
      gi_wp2
      refine hR.mono ?_
      rintro e W3 ⟨rfl, hJ3, hk3⟩
      gi_wp2
      go_roundw
      case rel => exact ⟨k + 1, by omega, by simp, by rw [uptoV_succ]; exact hJ3⟩
      case measure => simp [intOf]; omega
    · obtain rfl : k = len := by omega
      gi_wp2
      go_end0
      exact ⟨⟨_, rfl⟩, hJs⟩
set_option maxRecDepth 100000 in
set_option maxHeartbeats 1000000 in
theorem vals1_nil_in (F : Fence) (n : Nat) (h7 : F.fn 105) (hro : F.round = none) (l Bs : Nat) (p : Option Addr) (cap : Nat) (J : List Int → World → Prop) (W : World) (hBs : W.cell? ⟨Bs, 0, none⟩ = some (.slice p 0 cap)) (h0 : J [] W) :
    CallsIn F n Try.prog 105 #[.func (.yield l) #[] #[], .pointer (some ⟨Bs, 0, none⟩)] W fun e W' => (∃ v, e = .returned v) ∧ J [] W' := by
  refine callsIn_of_wp Try.func105 rfl h7 ?_ hro
  simp only [Try.ntmps105, List.size_toArray, List.length_cons, List.length_nil, Nat.reduceAdd, Nat.reduceSub, Array.replicate_succ, Array.replicate_zero, List.push_toArray, List.append_toArray, List.nil_append, List.cons_append]
  gi_wp2
  gi_loopw [7] (fun i wr => i = .int .i64 0 ∧ J [] wr) (fun _ _ => 0)
  case atStart => exact ⟨rfl, h0⟩
  case round =>
    obtain ⟨rfl, hJs⟩ := hrel
    gi_wp2
    go_end0
    exact ⟨⟨_, rfl⟩, hJs⟩
abbrev ρZ : Go.Shelf.Ren := Try.layZ_ren
set_option maxRecDepth 100000 in
set_option maxHeartbeats 2000000 in
theorem apV_in (F : Fence) (n : Nat) (h11 : F.fn 123) (hro : F.round = none) (hn : 2 ≤ n) (g : Nat) (lb : Array Value) (hFg : F.fn g) (eg : ∀ args w, (callFunc g args).run Try.prog w = .ok (.enter g args) w)
    (zs : List Int) (hN : zs.length ≤ maxLen) (hNb : zs.length * 8 ≤ 140737488355328) (w : World)
    (hseq : ∀ (l : Nat) (J : List Int → World → Prop) (W : World), (∀ s W, J s W → Below w.heap.size w W) → (∀ pre x W, J pre W → pre.length < zs.length → YieldAt F (n - 1 - 1) Try.prog l #[.int .i64 x] W fun e W' => e = .returned (.bool true) ∧ J (pre ++ [x]) W' ∧ KeepsWalks W W') → J [] W →
      CallsIn F (n - 1) Try.prog g (#[.func (.yield l) #[] #[]] ++ lb) W fun e W' => (∃ v, e = .returned v) ∧ J zs W') :
    CallsIn F n Try.prog 123 #[.slice none 0 0, .func (.func g) #[] lb] w fun e w' => ∃ v : Value, e = .returned v ∧ w'.ownsRow w.heap.size 3 1 v zs.length (zs.map encZ) ∧ (v = .slice none 0 0 ↔ zs = []) ∧ Below w.heap.size w w' := by
  have h1 : 1 ≤ n := by omega
  have L := Try.layZ
  have mixed := L.mixed; have t0 := L.t0; have a0 := L.a0; have z0 := L.z0; have v0 := L.v0; have t24 := L.t24; have a24 := L.a24; have z24 := L.z24; have v24 := L.v24; have t26 := L.t26; have a26 := L.a26; have z26 := L.z26; have v26 := L.v26; have t28 := L.t28; have a28 := L.a28; have z28 := L.z28; have v28 := L.v28
  have u0 := run_underlying L.t0; have u24 := run_underlying L.t24; have u26 := run_underlying L.t26; have u28 := run_underlying L.t28
  have hne : ρZ.t 24 ≠ ρZ.t 26 := by decide
  obtain ⟨_, _, FG⟩ := L.f11
  refine callsIn_of_wp_marks FG rfl h11 ?_ hro
  simp only [SlBodyZ.n11_ntmps ρZ, List.size_toArray, List.length_cons, List.length_nil, Nat.reduceAdd, Nat.reduceSub, Array.replicate_succ, Array.replicate_zero, List.push_toArray, List.append_toArray, List.nil_append, List.cons_append]
  gi_wp2
  refine wpIn_rangeFunc ?_
  intro fn hfn
  rw [hro]
  obtain ⟨W0, hW0⟩ : ∃ W0, w.alloc (.cells #[.slice none 0 0] (ρZ.t 24)) = W0 := ⟨_, rfl⟩
  have hs0 : W0.heap.size = w.heap.size + 1 := by rw [← hW0]; simp
  have hv0 : W0.heap[w.heap.size]? = some (.cells #[.slice none 0 0] (ρZ.t 24) (0, 0)) := by rw [← hW0]; exact World.alloc_heap_new w _
  have hb0 : Below w.heap.size w W0 := by rw [← hW0]; exact (Below.refl _ w).alloc (Nat.le_refl _) _
  rw [hW0]
  obtain ⟨W1, hW1⟩ : ∃ W1, (W0.alloc (.deferred (some []))).alloc (.loop (AnyZI.apRec ρZ fn (.func (.func g) #[] lb) w.heap.size W0.heap.size .ready none)) = W1 := ⟨_, rfl⟩
  have hold : ∀ k, k < W0.heap.size → W1.heap[k]? = W0.heap[k]? := fun k hk => by
    rw [← hW1]; exact (Below.heap_alloc _ _ k (by simp; omega)).trans (Below.heap_alloc _ _ k hk)
  have hb1 : Below w.heap.size w W1 := by rw [← hW1]; exact (hb0.alloc hb0.size _).alloc (by have := hb0.size; simp; omega) _
  have hM : AnyZI.ApAt ρZ w fn (.func (.func g) #[] lb) w.heap.size (W0.heap.size + 1) W0.heap.size [] W1 :=
    ⟨⟨_, (hold w.heap.size (by omega)).trans hv0, ⟨rfl, .inl ⟨rfl, rfl⟩⟩, by simp⟩,
     by rw [← hW1]; have := World.alloc_heap_new (W0.alloc (.deferred (some []))) (.loop (AnyZI.apRec ρZ fn (.func (.func g) #[] lb) w.heap.size W0.heap.size .ready none)); rwa [World.size_alloc] at this,
     by rw [← hW1]; exact (Below.heap_alloc _ _ _ (by simp)).trans (World.alloc_heap_new W0 _), hb1⟩
  refine ⟨W0.heap.size + 1, [{ target := .collected W0.heap.size, args := #[] }], W1, { target := .fn (.func g) lb, args := #[.func (.yield (W0.heap.size + 1)) #[] #[]] }, W1, g,
    #[.func (.yield (W0.heap.size + 1)) #[] #[]] ++ lb, W1, ?_, ?_, ?_, ?_, fun _ => h1, ?_⟩
  · rw [← hW1]; exact run_enterLoop_outer _ _ _ _ _
  · simp [resolve, go_sem]
  · intro f' hf'; simp [Target.leads] at hf'; subst hf'; exact hFg
  · simp [invoke, go_sem, eg]
  · refine (hseq (W0.heap.size + 1) (AnyZI.ApAt ρZ w fn (.func (.func g) #[] lb) w.heap.size (W0.heap.size + 1) W0.heap.size) W1 (fun s W h => h.below)
      (fun pre x W hJ hl => AnyZI.apYield L F (n - 1 - 1) w fn hfn _ w.heap.size (W0.heap.size + 1) W0.heap.size (by omega) (by omega) (by omega) (Nat.le_refl _) (by omega) zs.length hN hNb pre x W hJ hl) hM).mono ?_
    rintro e W2 ⟨⟨v0, rfl⟩, h2⟩
    obtain ⟨v, hv, hrow, hnil⟩ := h2.box
    have hend := run_endLoop (P := Try.prog) h2.L (by simp [AnyZI.apRec])
    obtain ⟨W3, hW3⟩ : ∃ W3, W2.putObj (W0.heap.size + 1) (.loop { AnyZI.apRec ρZ fn (.func (.func g) #[] lb) w.heap.size W0.heap.size .ready none with state := .exhausted }) = W3 := ⟨_, rfl⟩
    rw [hW3] at hend
    have hg3 : W2.grownBy W3 (some (W0.heap.size + 1)) := by rw [← hW3]; exact grownBy_putObj_a _ _ _
    have hv3 : W3.heap[w.heap.size]? = some (.cells #[v] (ρZ.t 24) (0, 0)) := by rw [← hW3]; exact (World.putObj_heap_other (by omega)).trans hv
    have hK3 : W3.heap[W0.heap.size]? = some (.deferred (some [])) := by rw [← hW3]; exact (World.putObj_heap_other (by omega)).trans h2.K
    have hrow3 := hrow.kept hg3 (ownsRow_ne_a hrow h2.L (fun cur e => by first | cases e | exact hne (Obj.cells.inj e).2.1))
    have hb3 : Below w.heap.size w W3 := h2.below.grown hg3 h2.below.size (fun k e => by cases e; omega)
    obtain ⟨hc3, hf3⟩ := cell_of_box_a hv3
    clear hW3
    refine ⟨none, W3, hend, ?_⟩
    gi_wp2
    rw [← hs0]
    refine ⟨by simp, .inl ⟨_, _, rfl, run_takeDeferred hK3, ?_⟩⟩
    exact ⟨_, results_tmp rfl _ _ _, v, rfl, hrow3.kept (grownBy_putObj_a _ _ _) (ownsRow_ne_a hrow3 hK3 (fun cur e => by first | cases e | exact hne (Obj.cells.inj e).2.1)), hnil, hb3.grown (grownBy_putObj_a _ _ _) hb3.size (fun k e => by cases e; omega)⟩
def Gh.addTn (Γ : Gh) (i n b cap : Nat) : Gh := { Γ with T := fun j m => if j = i ∧ m = n then some (b, cap) else Γ.T j m }
/-- a box that holds a list that stays, in memory -/
theorem box_ints {w0 : Bs} {Γ : Gh} {H : List HO} {w : World} (hr : R w0 Γ H w) {k b0 : Nat} {own : Own} {l : List Int} (hk : H[k]? = some (.box [.sl own (ints' l)])) (hB : Γ.B k = some b0) :
    b0 < w.heap.size ∧ ((l = [] ∧ ∃ p cap, w.cell? ⟨b0, 0, none⟩ = some (.slice p 0 cap)) ∨ (∃ b o cap, w.cell? ⟨b0, 0, none⟩ = some (.slice (some ⟨b, o, none⟩) l.length cap) ∧ b < w.heap.size ∧ ∀ j, j < l.length → w.cell? ⟨b, o + j, none⟩ = some (.int .i64 (l[j]?.getD 0)))) := by
  obtain ⟨bs, hobj, _⟩ := hr.obj
  obtain ⟨_, h1, ⟨vals, e, h2, h3⟩, h4, h5⟩ := hobj k _ hk rfl
  rw [hB] at h1
  injection h1 with h1
  rw [← h1] at h2
  have hb0 := (Array.getElem?_eq_some_iff.1 h2).1
  refine ⟨hb0, ?_⟩
  obtain ⟨vl, hvl⟩ : ∃ vl, vl = vals.toList := ⟨_, rfl⟩
  rw [← hvl] at h3
  cases h3 with
  | @cons _ v _ _ h t =>
  cases t
  have hc0 : w.cell? ⟨b0, 0, none⟩ = some v := by
    have hv0 : vals[0]? = some v := by rw [← Array.getElem?_toList, ← hvl]; rfl
    simp [World.cell?, h2, hv0]
  rw [hc0]
  generalize hxs : ints' l = xs at h
  cases h with
  | @sl0 own a cap ho =>
    rw [avs_eq_nil] at hxs
    exact .inl ⟨hxs, a, cap, rfl⟩
  | @sl own xs vs b o cap n sz hn hs h1' h' hi ho hc =>
    subst hxs
    have e1 := VRs_ints_eq (l := l) (vs := vs) (by simpa using h')
    rw [avs_length] at hn
    by_cases h0 : l = []
    · exact .inl ⟨h0, some ⟨b, o, none⟩, cap, by rw [hn, h0]; rfl⟩
    have hcell : ∀ j, j < l.length → w.cell? ⟨b, o + j, none⟩ = some (.int .i64 (l[j]?.getD 0)) := fun j hj => by
      have := hr.imm _ _ _ (hi j (.int .i64 l[j]) (by rw [e1]; simp [hj]))
      rw [this]
      simp [hj]
    exact .inr ⟨b, o, cap, by rw [hn], cell_lt (hcell 0 (List.length_pos_iff.2 h0)), hcell⟩
theorem S_appNone {H : List HO} {k : Nat} {own : Own} (hk : H[k]? = some (.box [.sl own (ints' [])])) : TS Try.prog 123 [.sl .nil [], .fn (.func 105) [] [.ptr k 0]] H (pt (.sl .nil []) H) := by
  intro w0 Γ w vs hr hv
  cases hv with
  | cons h t =>
  cases t with
  | cons h2 t =>
  cases t
  cases h with
  | sl hn hs h1 h hi ho hc => cases ho.2
  | sl0 ho =>
  obtain ⟨rfl, rfl⟩ := ho
  cases h2 with
  | fn hf hcp =>
  cases hf
  cases hcp with
  | cons hp t =>
  cases t
  cases hp with
  | @ptr _ _ b0 hB =>
  obtain ⟨hb0, hbx⟩ := box_ints hr hk hB
  rcases hbx with ⟨_, p, cap, hc0⟩ | ⟨b, o, cap, hc0, hbl, hcs⟩
  · have key := apV_in Fence.wide 2 trivial rfl (Nat.le_refl _) 105 #[.pointer (some ⟨b0, 0, none⟩)] trivial (enters_of Try.func105 (by kernel_rfl) rfl) [] (by simp [maxLen]) (by simp) w
      (fun l' J W hJb hY hJ0 => vals1_nil_in Fence.wide 1 trivial rfl l' b0 p cap J W (((hJb _ _ hJ0).cell (p := ⟨b0, 0, none⟩) hb0).trans hc0) hJ0)
    refine .inl ⟨⟨_, Try.func123, by kernel_rfl, by kernel_rfl⟩, (callsIn_wide.1 key).mono ?_⟩
    rintro e' w' ⟨v, rfl, hrow, hnil, hbel⟩
    obtain rfl := hnil.2 rfl
    exact ⟨Γ, _, .sl .nil [], H, rfl, Gh.Le.refl _, .sl0 ⟨rfl, rfl⟩, hr.drew hbel, rfl, rfl⟩
  · have h0 : w.cell? ⟨b0, 0, none⟩ = some (.slice (some ⟨b, o, none⟩) 0 cap) := hc0
    have key := apV_in Fence.wide 2 trivial rfl (Nat.le_refl _) 105 #[.pointer (some ⟨b0, 0, none⟩)] trivial (enters_of Try.func105 (by kernel_rfl) rfl) [] (by simp [maxLen]) (by simp) w
      (fun l' J W hJb hY hJ0 => vals1_nil_in Fence.wide 1 trivial rfl l' b0 _ cap J W (((hJb _ _ hJ0).cell (p := ⟨b0, 0, none⟩) hb0).trans h0) hJ0)
    refine .inl ⟨⟨_, Try.func123, by kernel_rfl, by kernel_rfl⟩, (callsIn_wide.1 key).mono ?_⟩
    rintro e' w' ⟨v, rfl, hrow, hnil, hbel⟩
    obtain rfl := hnil.2 rfl
    exact ⟨Γ, _, .sl .nil [], H, rfl, Gh.Le.refl _, .sl0 ⟨rfl, rfl⟩, hr.drew hbel, rfl, rfl⟩
theorem S_appSome {H : List HO} {k : Nat} {own : Own} {l : List Int} (hk : H[k]? = some (.box [.sl own (ints' l)])) (h0 : l ≠ []) (hl : l.length ≤ 1000000) : TS Try.prog 123 [.sl .nil [], .fn (.func 105) [] [.ptr k 0]] H (pt (.mv H.length l.length 1 0 l.length) (H ++ [.row l.length 1 (ints' l)])) := by
  intro w0 Γ w vs hr hv
  cases hv with
  | cons h t =>
  cases t with
  | cons h2 t =>
  cases t
  cases h with
  | sl hn hs h1 h hi ho hc => cases ho.2
  | sl0 ho =>
  obtain ⟨rfl, rfl⟩ := ho
  cases h2 with
  | fn hf hcp =>
  cases hf
  cases hcp with
  | cons hp t =>
  cases t
  cases hp with
  | @ptr _ _ b0 hB =>
  obtain ⟨hb0, hbx⟩ := box_ints hr hk hB
  rcases hbx with ⟨h, _⟩ | ⟨b, o, cap, hc0, hbl, hcs⟩
  · exact absurd h h0
  have key := apV_in Fence.wide 2 trivial rfl (Nat.le_refl _) 105 #[.pointer (some ⟨b0, 0, none⟩)] trivial (enters_of Try.func105 (by kernel_rfl) rfl) l (by unfold maxLen; omega) (by omega) w
    (fun l' J W hJb hY hJ0 => by
      have := vals1_in Fence.wide 1 trivial rfl (Nat.le_refl _) l' b0 w.heap.size b o l.length cap l (by omega) hbl hb0 w J hJb hY W hc0 hcs hJ0
      rw [uptoV_all] at this
      exact this)
  refine .inl ⟨⟨_, Try.func123, by kernel_rfl, by kernel_rfl⟩, (callsIn_wide.1 key).mono ?_⟩
  rintro e' w' ⟨v, rfl, hrow, hnil, hbel⟩
  rcases hrow.2 with ⟨_, hz⟩ | ⟨gb, cp, cur, rfl, hbase, hgb, r1, r2, r3, r4⟩
  · exact absurd (List.eq_nil_of_length_eq_zero hz) h0
  have noI : ∀ o, Γ.I gb o = none := fun o => by
    cases hd : Γ.I gb o with
    | none => rfl
    | some v => have := cell_lt (hr.imm _ _ _ hd); omega
  have hfr := (hr.fresh H.length (Nat.le_refl _)).2
  have le : Gh.Le Γ (Γ.addTn H.length l.length gb cp) := ⟨fun _ _ _ h => h, fun _ _ h => h, fun t m p h => by
    simp only [Gh.addTn]
    split
    · rename_i hh
      have := hfr m
      rw [hh.1, this] at h
      cases h
    · exact h⟩
  have hT : (Γ.addTn H.length l.length gb cp).T H.length l.length = some (gb, cp) := by simp [Gh.addTn]
  refine ⟨Γ.addTn H.length l.length gb cp, _, .mv H.length l.length 1 0 l.length, H ++ [.row l.length 1 (ints' l)], rfl, le, VR.mv (cap := cp) (o := 0) hT (by omega) r1 (fun _ => rfl), ?_, rfl, rfl⟩
  refine hr.push _ gb hbel le hbase (fun _ => ?_) (fun c o v h => .inl h) (fun _ _ => rfl) (fun k hk => by funext m; simp [Gh.addTn, hk]) rfl
  refine ⟨⟨cp, cur, _, hT, hgb, r3, r2, r1, ?_⟩, ?_, fun o => noI o, fun m hm => ?_⟩
  · rw [r4]
    exact VRs_ints l
  · intro x hx
    obtain ⟨a, ha, rfl⟩ := mem_avs.1 hx
    rfl
  · have : ¬ m = l.length := by omega
    simp [Gh.addTn, this]
    exact hfr m
end Go.Proofs.Ytcjfjoilgnlemaa.PL
