/- Contracts of functions of the program, and plain laws (part 1): Contracts of the library, laid at this program by the kit's own tools; Numbers sorted by the library; Sets of numbers; Numbers that two lists share; The reference's sets of numbers; What the classes that join tell; Playing joins on both; All classes; What is asked of rows in statements; In whatever order: classes that join; What hangs together; Ears. -/
import Derived.Test.YtjplcdeaedflpaaGreatDoorB0
import Derived.Shelf.Sort.Plain
import Derived.Shelf.Slices.In.SortNone
import Derived.Shelf.Strconv.Itoa3
import Derived.Test.YtjplcdeaedflpaaGreatDoorProg
import Derived.Sort.OwnSortedInts
namespace Go.Proofs
open Go.Shelf
def Tryz.lays189_ren : Go.Shelf.Ren := ⟨fun | 189 => 113 | 125 => 130 | 257 => 129 | 128 => 151 | 129 => 152 | 294 => 142 | 295 => 143 | 296 => 144 | 297 => 145 | 298 => 146 | 299 => 147 | 216 => 148 | 300 => 149 | 301 => 150 | 328 => 163 | 329 => 164 | 330 => 165 | 331 => 166 | 332 => 167 | 215 => 168 | 343 => 175 | n => n, fun | 28 => 22 | 3 => 3 | 46 => 103 | 0 => 0 | 51 => 120 | 53 => 123 | 4 => 4 | 183 => 140 | 182 => 139 | 131 => 127 | 5 => 5 | 9 => 9 | 218 => 153 | 222 => 157 | 228 => 163 | 229 => 164 | n => n, fun | n => n⟩
theorem Tryz.lays189 : Go.Proofs.Lays.n189 Tryz.prog Tryz.lays189_ren := {
  mixed := by kernel_rfl
  f125 := Tryz.func130.trans (congrArg some (by kernel_rfl))
  f128 := Tryz.func151.trans (congrArg some (by kernel_rfl))
  f129 := Tryz.func152.trans (congrArg some (by kernel_rfl))
  f189 := Tryz.func113.trans (congrArg some (by kernel_rfl))
  f215 := Tryz.func168.trans (congrArg some (by kernel_rfl))
  f216 := Tryz.func148.trans (congrArg some (by kernel_rfl))
  f257 := Tryz.func129.trans (congrArg some (by kernel_rfl))
  f294 := Tryz.func142.trans (congrArg some (by kernel_rfl))
  f295 := Tryz.func143.trans (congrArg some (by kernel_rfl))
  f296 := Tryz.func144.trans (congrArg some (by kernel_rfl))
  f297 := Tryz.func145.trans (congrArg some (by kernel_rfl))
  f298 := Tryz.func146.trans (congrArg some (by kernel_rfl))
  f299 := Tryz.func147.trans (congrArg some (by kernel_rfl))
  f300 := Tryz.func149.trans (congrArg some (by kernel_rfl))
  f301 := Tryz.func150.trans (congrArg some (by kernel_rfl))
  f328 := Tryz.func163.trans (congrArg some (by kernel_rfl))
  f329 := Tryz.func164.trans (congrArg some (by kernel_rfl))
  f330 := Tryz.func165.trans (congrArg some (by kernel_rfl))
  f331 := Tryz.func166.trans (congrArg some (by kernel_rfl))
  f332 := Tryz.func167.trans (congrArg some (by kernel_rfl))
  f343 := Tryz.func175.trans (congrArg some (by kernel_rfl))
  t0 := Tryz.underlying0
  a0 := Tryz.isAgg0
  z0 := Tryz.sizeOf0
  v0 := Tryz.zeroValue0
  t3 := Tryz.underlying3
  a3 := Tryz.isAgg3
  z3 := Tryz.sizeOf3
  v3 := Tryz.zeroValue3
  t4 := Tryz.underlying4
  a4 := Tryz.isAgg4
  z4 := Tryz.sizeOf4
  v4 := Tryz.zeroValue4
  t5 := Tryz.underlying5
  a5 := Tryz.isAgg5
  z5 := Tryz.sizeOf5
  v5 := Tryz.zeroValue5
  t9 := Tryz.underlying9
  a9 := Tryz.isAgg9
  z9 := Tryz.sizeOf9
  v9 := Tryz.zeroValue9
  t28 := Tryz.underlying22
  a28 := Tryz.isAgg22
  z28 := Tryz.sizeOf22
  v28 := Tryz.zeroValue22
  t46 := Tryz.underlying103
  a46 := Tryz.isAgg103
  z46 := Tryz.sizeOf103
  v46 := Tryz.zeroValue103
  t51 := Tryz.underlying120
  a51 := Tryz.isAgg120
  z51 := Tryz.sizeOf120
  v51 := Tryz.zeroValue120
  t53 := Tryz.underlying123
  a53 := Tryz.isAgg123
  z53 := Tryz.sizeOf123
  v53 := Tryz.zeroValue123
  t131 := Tryz.underlying127
  a131 := Tryz.isAgg127
  z131 := Tryz.sizeOf127
  v131 := Tryz.zeroValue127
  t182 := Tryz.underlying139
  a182 := Tryz.isAgg139
  z182 := Tryz.sizeOf139
  v182 := Tryz.zeroValue139
  t183 := Tryz.underlying140
  a183 := Tryz.isAgg140
  z183 := Tryz.sizeOf140
  v183 := Tryz.zeroValue140
  t218 := Tryz.underlying153
  a218 := Tryz.isAgg153
  z218 := Tryz.sizeOf153
  v218 := Tryz.zeroValue153
  t222 := Tryz.underlying157
  a222 := Tryz.isAgg157
  z222 := Tryz.sizeOf157
  v222 := Tryz.zeroValue157
  t228 := Tryz.underlying163
  a228 := Tryz.isAgg163
  z228 := Tryz.sizeOf163
  v228 := Tryz.zeroValue163
  t229 := Tryz.underlying164
  a229 := Tryz.isAgg164
  z229 := Tryz.sizeOf164
  v229 := Tryz.zeroValue164 }
open Go.Sort Go.RowKit in
theorem Tryz.slices_Sort_int (blk off cap : Nat) (zs : List Int) (w : World) (hH : Holds (Value.int .i64) w blk off zs.toArray) (hblk : blk < w.heap.size) (hsz : zs.length < 4611686018427387904) :
    Calls Tryz.prog 113 #[.slice (some ⟨blk, off, none⟩) zs.length cap] w fun e w' =>
      e = .returned (.tuple #[]) ∧ ∃ n os, w' = grow (putRow (Value.int .i64) (Sort.ahead w n) blk off (zs.mergeSort fun x y => decide (x ≤ y)).toArray) os := Any.slices_Sort_int Tryz.lays189 blk off cap zs w hH hblk hsz
open Go.RowKit Go.Sort in
theorem Tryz.slices_Sort_int_none (p : Option Addr) (cap : Nat) (w : World) :
    Calls Tryz.prog 113 #[.slice p 0 cap] w fun e w' => e = .returned (.tuple #[]) ∧ w' = w := Any.slices_Sort_int_none Tryz.lays189 p cap w
def Tryz.laysM243_ren : Go.Shelf.Ren := ⟨fun | 243 => 131 | 246 => 153 | 283 => 169 | 284 => 170 | 285 => 171 | 286 => 172 | 129 => 152 | 317 => 176 | 318 => 177 | 319 => 178 | 320 => 179 | 337 => 184 | 338 => 185 | n => n, fun | 3 => 3 | 9 => 9 | 2 => 2 | 4 => 4 | 171 => 159 | 0 => 0 | 53 => 123 | 37 => 132 | 5 => 5 | 173 => 161 | 212 => 167 | 51 => 120 | 20 => 20 | 213 => 168 | 46 => 103 | 232 => 171 | 233 => 172 | n => n, fun | 17 => 0 | 18 => 1 | 19 => 2 | n => n⟩
theorem Tryz.laysM243 : Go.Proofs.LaysM.n243 Tryz.prog Tryz.laysM243_ren := {
  mixed := by kernel_rfl
  f129 := Tryz.func152.trans (congrArg some (by kernel_rfl))
  f243 := Tryz.func131.trans (congrArg some (by kernel_rfl))
  f246 := Tryz.func153.trans (congrArg some (by kernel_rfl))
  f283 := Tryz.func169.trans (congrArg some (by kernel_rfl))
  f284 := Tryz.func170.trans (congrArg some (by kernel_rfl))
  f285 := Tryz.func171.trans (congrArg some (by kernel_rfl))
  f286 := Tryz.func172.trans (congrArg some (by kernel_rfl))
  f317 := Tryz.func176.trans (congrArg some (by kernel_rfl))
  f318 := Tryz.func177.trans (congrArg some (by kernel_rfl))
  f319 := Tryz.func178.trans (congrArg some (by kernel_rfl))
  f320 := Tryz.func179.trans (congrArg some (by kernel_rfl))
  f337 := Tryz.func184.trans (congrArg some (by kernel_rfl))
  f338 := Tryz.func185.trans (congrArg some (by kernel_rfl))
  t0 := Tryz.underlying0
  a0 := Tryz.isAgg0
  z0 := Tryz.sizeOf0
  v0 := Tryz.zeroValue0
  t2 := Tryz.underlying2
  a2 := Tryz.isAgg2
  z2 := Tryz.sizeOf2
  v2 := Tryz.zeroValue2
  t3 := Tryz.underlying3
  a3 := Tryz.isAgg3
  z3 := Tryz.sizeOf3
  v3 := Tryz.zeroValue3
  t4 := Tryz.underlying4
  a4 := Tryz.isAgg4
  z4 := Tryz.sizeOf4
  v4 := Tryz.zeroValue4
  t5 := Tryz.underlying5
  a5 := Tryz.isAgg5
  z5 := Tryz.sizeOf5
  v5 := Tryz.zeroValue5
  t9 := Tryz.underlying9
  a9 := Tryz.isAgg9
  z9 := Tryz.sizeOf9
  v9 := Tryz.zeroValue9
  t20 := Tryz.underlying20
  a20 := Tryz.isAgg20
  z20 := Tryz.sizeOf20
  v20 := Tryz.zeroValue20
  t37 := Tryz.underlying132
  a37 := Tryz.isAgg132
  z37 := Tryz.sizeOf132
  v37 := Tryz.zeroValue132
  t46 := Tryz.underlying103
  a46 := Tryz.isAgg103
  z46 := Tryz.sizeOf103
  v46 := Tryz.zeroValue103
  t51 := Tryz.underlying120
  a51 := Tryz.isAgg120
  z51 := Tryz.sizeOf120
  v51 := Tryz.zeroValue120
  t53 := Tryz.underlying123
  a53 := Tryz.isAgg123
  z53 := Tryz.sizeOf123
  v53 := Tryz.zeroValue123
  t171 := Tryz.underlying159
  a171 := Tryz.isAgg159
  z171 := Tryz.sizeOf159
  v171 := Tryz.zeroValue159
  t173 := Tryz.underlying161
  a173 := Tryz.isAgg161
  z173 := Tryz.sizeOf161
  v173 := Tryz.zeroValue161
  t212 := Tryz.underlying167
  a212 := Tryz.isAgg167
  z212 := Tryz.sizeOf167
  v212 := Tryz.zeroValue167
  t213 := Tryz.underlying168
  a213 := Tryz.isAgg168
  z213 := Tryz.sizeOf168
  t232 := Tryz.underlying171
  a232 := Tryz.isAgg171
  z232 := Tryz.sizeOf171
  v232 := Tryz.zeroValue171
  t233 := Tryz.underlying172
  a233 := Tryz.isAgg172
  z233 := Tryz.sizeOf172
  v233 := Tryz.zeroValue172
  g17 := by kernel_rfl
  g18 := by kernel_rfl
  g19 := by kernel_rfl
  i0 := by kernel_rfl
  i2 := by kernel_rfl
  i3 := by kernel_rfl
  i4 := by kernel_rfl
  i5 := by kernel_rfl
  i9 := by kernel_rfl
  i20 := by kernel_rfl
  i37 := by kernel_rfl
  i46 := by kernel_rfl
  i51 := by kernel_rfl
  i53 := by kernel_rfl
  i171 := by kernel_rfl
  i173 := by kernel_rfl
  i212 := by kernel_rfl
  i232 := by kernel_rfl
  i233 := by kernel_rfl
  m17 := by kernel_rfl
  m18 := by kernel_rfl
  m19 := by kernel_rfl }
open Go.RowKit Go.Sort Go.Lib in
theorem Tryz.internal_strconv_Itoa (n : Int) (h0 : -9223372036854775808 ≤ n) (h1 : n ≤ 9223372036854775807) (w : World) (htab : Lib.TabIs Tryz.prog w "internal/strconv.uint64pow10" .u64 Lib.pow10Tab) :
    Calls Tryz.prog 131 #[.int .i64 n] w fun e w' => e = .returned (.string ⟨(Lib.itoa n).toArray⟩) ∧ ∃ k os, w' = grow (w.drewN k) os := Any.internal_strconv_Itoa Tryz.laysM243 n h0 h1 w htab
end Go.Proofs
namespace Go.Proofs.YtjplcdeaedflpaaGreatDoor.PL
open Go.Proofs
set_option linter.unusedVariables false
set_option linter.unusedSimpArgs false
theorem VRs_ints {Γ : Gh} : ∀ (l : List Int), VRs Γ (ints' l) (l.map (Value.int .i64))
  | [] => .nil
  | x :: l => .cons (.int _ _) (VRs_ints l)
theorem VRs_ints_eq {Γ : Gh} : ∀ {l : List Int} {vs : List Value}, VRs Γ (ints' l) vs → vs = l.map (Value.int .i64)
  | [], _, h => by cases h; rfl
  | x :: l, _, h => by
    cases h with
    | cons h t => cases h; rw [VRs_ints_eq t]; rfl
abbrev sortI (l : List Int) : List Int := l.mergeSort fun x y => decide (x ≤ y)
theorem sortI_len (l : List Int) : (sortI l).length = l.length := List.length_mergeSort l
open Go.Sort in
theorem TS.sortI {P : Program} {f : FuncId} (hc : Callable P f)
    (hS : ∀ (blk off cap : Nat) (zs : List Int) (w : World), Holds (Value.int .i64) w blk off zs.toArray → blk < w.heap.size → zs.length < 4611686018427387904 →
      Calls P f #[.slice (some ⟨blk, off, none⟩) zs.length cap] w fun e w' => e = .returned (.tuple #[]) ∧ ∃ n os, w' = grow (putRow (Value.int .i64) (Sort.ahead w n) blk off (zs.mergeSort fun x y => decide (x ≤ y)).toArray) os)
    {H : List HO} {i : Nat} {zs : List Int} (hi : H[i]? = some (.row zs.length 1 (ints' zs))) (hlen : zs.length < 4611686018427387904) (h0 : 0 < zs.length)
    {K : AV → List HO → Prop} (hk : K (.tup []) (H.set i (.row zs.length 1 (ints' (PL.sortI zs))))) : TS P f [.mv i zs.length 1 0 zs.length] H K := by
  intro w0 Γ w vs hr hv
  cases hv with
  | cons h t =>
  cases t
  cases h with
  | @mv _ _ _ _ _ b' cap o hT hl hcap ho =>
  obtain ⟨b, hb0, hblt, hat, hput⟩ := hr.put hi rfl
  obtain ⟨⟨cap', cur, e, h1, h2, h3, h4, h5, h6⟩, h7, h8, h9⟩ := hat
  rw [hT] at h1
  simp only [Option.some.injEq, Prod.mk.injEq] at h1
  obtain ⟨rfl, rfl⟩ := h1
  obtain rfl : o = 0 := (ho (by omega)).trans (Nat.zero_mul _)
  have hv6 := VRs_ints_eq h6
  rw [Nat.mul_one] at hv6
  have hcl : (PL.sortI zs).length = zs.length := sortI_len zs
  refine .inl ⟨hc, (hS b' 0 (cap - 0) zs w (holds_of_blockI h2 hv6) hblt hlen).mono ?_⟩
  rintro e' w' ⟨rfl, n, os, rfl⟩
  refine ⟨Γ, .tuple #[], .tup [], _, rfl, Gh.Le.refl _, .tup .nil, hput (.row zs.length 1 (ints' (PL.sortI zs))) b' Γ _ (grownBy_sortedI _) (Gh.Le.refl _) (.inl rfl) (fun _ => ?_) ?_ (fun _ => rfl) (fun _ _ => rfl) rfl, hk⟩
  · refine ⟨⟨cap, _, e, hT, heap_sortedI _ h2, by simp [putCells, h3], h4, h5, ?_⟩, ?_, h8, h9⟩
    · rw [Nat.mul_one, ← hcl, take_putCellsI cur _ (by rw [hcl, h3]; omega)]
      exact VRs_ints _
    · intro x hx
      obtain ⟨a, ha, rfl⟩ := mem_avs.1 hx
      rfl
  · intro c o v hv
    refine .inl ⟨hv, ?_⟩
    rintro rfl
    rw [h8 o] at hv
    cases hv
theorem S_sortInts {H : List HO} {i n : Nat} {zs : List Int} (hn : zs.length = n) (hi : H[i]? = some (.row n 1 (ints' zs))) (hlen : n < 4611686018427387904) (h0 : 0 < n) : TS Tryz.prog 113 [.mv i n 1 0 n] H (pt (.tup []) (H.set i (.row n 1 (ints' (sortI zs))))) := by
  subst hn
  exact TS.sortI ⟨_, Tryz.func113, by kernel_rfl, by kernel_rfl⟩ Tryz.slices_Sort_int hi hlen h0 ⟨rfl, rfl⟩
theorem S_sortNone {H : List HO} {own : Own} : TS Tryz.prog 113 [.sl own []] H (pt (.tup []) H) := by
  intro w0 Γ w vs hr hv
  cases hv with
  | cons h t =>
  cases t
  have key : ∀ p cap, CallsX Tryz.prog 113 #[.slice p 0 cap] w fun e w' => ∃ Γ' v r H', e = .returned v ∧ Gh.Le Γ Γ' ∧ VR Γ' r v ∧ R w0 Γ' H' w' ∧ pt (.tup []) H r H' := fun p cap =>
    .inl ⟨⟨_, Tryz.func113, by kernel_rfl, by kernel_rfl⟩, (Tryz.slices_Sort_int_none p cap w).mono (by rintro e' w' ⟨rfl, rfl⟩; exact ⟨Γ, .tuple #[], .tup [], H, rfl, Gh.Le.refl _, .tup .nil, hr, rfl, rfl⟩)⟩
  cases h with
  | sl0 ho => exact key _ _
  | sl hn hs h1 h hi ho hc =>
    simp at hn
    subst hn
    exact key _ _
end Go.Proofs.YtjplcdeaedflpaaGreatDoor.PL
namespace Go.Proofs.YtjplcdeaedflpaaGreatDoor.PL
open Go.Proofs
set_option linter.unusedVariables false
set_option linter.unusedSimpArgs false
/-- a number put into a list that rises -/
def putI (v : Int) : List Int → List Int
  | [] => [v]
  | x :: l => if x < v then x :: putI v l else if x = v then x :: l else v :: x :: l
def setI (l : List Int) : List Int := l.foldl (fun s v => putI v s) []
def Rises (s : List Int) : Prop := s.Pairwise (· < ·)
theorem putI_mem {v x : Int} : ∀ {l : List Int}, x ∈ putI v l ↔ x = v ∨ x ∈ l
  | [] => by simp [putI]
  | y :: l => by
    unfold putI
    split
    · rw [List.mem_cons, putI_mem, List.mem_cons]; grind
    · split
      · rename_i h1 h2; subst h2; rw [List.mem_cons]; grind
      · rw [List.mem_cons]
theorem putI_rises {v : Int} : ∀ {l : List Int}, Rises l → Rises (putI v l)
  | [], _ => by simp [putI, Rises]
  | y :: l, h => by
    unfold Rises at h
    rw [List.pairwise_cons] at h
    unfold putI
    split
    · unfold Rises
      rw [List.pairwise_cons]
      refine ⟨fun x hx => ?_, putI_rises h.2⟩
      rcases putI_mem.1 hx with rfl | hx
      · assumption
      · exact h.1 x hx
    · split
      · unfold Rises; rw [List.pairwise_cons]; exact h
      · unfold Rises
        rw [List.pairwise_cons, List.pairwise_cons]
        refine ⟨fun x hx => ?_, h⟩
        rcases List.mem_cons.1 hx with rfl | hx
        · omega
        · have := h.1 x hx; omega
theorem setI_both : ∀ (l s : List Int), Rises s → Rises (l.foldl (fun s v => putI v s) s) ∧ ∀ x, x ∈ l.foldl (fun s v => putI v s) s ↔ x ∈ l ∨ x ∈ s
  | [], s, h => ⟨h, fun x => by simp⟩
  | v :: l, s, h => by
    obtain ⟨h1, h2⟩ := setI_both l (putI v s) (putI_rises h)
    refine ⟨h1, fun x => ?_⟩
    rw [List.foldl_cons, h2, putI_mem, List.mem_cons]
    grind
theorem setI_rises (l : List Int) : Rises (setI l) := (setI_both l [] .nil).1
theorem setI_mem {l : List Int} {x : Int} : x ∈ setI l ↔ x ∈ l := by rw [setI, (setI_both l [] .nil).2]; simp
theorem rises_eq : ∀ {a b : List Int}, Rises a → Rises b → (∀ x, x ∈ a ↔ x ∈ b) → a = b
  | [], [], _, _, _ => rfl
  | [], y :: b, _, _, h => absurd ((h y).2 List.mem_cons_self) (by simp)
  | x :: a, [], _, _, h => absurd ((h x).1 List.mem_cons_self) (by simp)
  | x :: a, y :: b, ha, hb, h => by
    unfold Rises at ha hb
    rw [List.pairwise_cons] at ha hb
    have hxy : x = y := by
      rcases List.mem_cons.1 ((h x).1 List.mem_cons_self) with e | e
      · exact e
      · rcases List.mem_cons.1 ((h y).2 List.mem_cons_self) with e2 | e2
        · exact e2.symm
        · have := hb.1 x e; have := ha.1 y e2; omega
    subst hxy
    congr 1
    refine rises_eq ha.2 hb.2 fun z => ⟨fun hz => ?_, fun hz => ?_⟩
    · rcases List.mem_cons.1 ((h z).1 (List.mem_cons_of_mem _ hz)) with e | e
      · subst e; have := ha.1 _ hz; omega
      · exact e
    · rcases List.mem_cons.1 ((h z).2 (List.mem_cons_of_mem _ hz)) with e | e
      · subst e; have := hb.1 _ hz; omega
      · exact e
theorem sort_set {L l : List Int} (hn : L.Nodup) (hm : ∀ x, x ∈ L ↔ x ∈ l) : sortI L = setI l := by
  refine rises_eq ?_ (setI_rises l) fun x => by rw [setI_mem, ← hm]; exact List.mem_mergeSort
  have h1 : (sortI L).Pairwise (fun a b => decide (a ≤ b) = true) := List.pairwise_mergeSort (by simp; omega) (by simp; omega) L
  have h2 : (sortI L).Nodup := (List.mergeSort_perm L _).nodup_iff.2 hn
  unfold Rises
  refine (h1.and h2).imp fun {a b} h => ?_
  simp at h
  omega
theorem nodup_le {α : Type} [DecidableEq α] : ∀ {l m : List α}, l.Nodup → (∀ x, x ∈ l → x ∈ m) → l.length ≤ m.length
  | [], _, _, _ => by simp
  | a :: l, m, hn, h => by
    rw [List.nodup_cons] at hn
    have ha := h a List.mem_cons_self
    have h1 : l.length ≤ (m.erase a).length := nodup_le hn.2 fun x hx => by
      have hne : x ≠ a := by rintro rfl; exact hn.1 hx
      exact (List.mem_erase_of_ne hne).2 (h x (List.mem_cons_of_mem _ hx))
    rw [List.length_erase_of_mem ha] at h1
    have := List.length_pos_of_mem ha
    simp only [List.length_cons]
    omega
theorem nodup_bound {n : Nat} {l : List Nat} (hn : l.Nodup) (hl : ∀ x, x ∈ l → x < n) : l.length ≤ n := by
  simpa using nodup_le (m := List.range n) hn fun x hx => List.mem_range.2 (hl x hx)
theorem nodup_get {α : Type} {l : List α} (h : l.Nodup) {i j : Nat} (hi : i < l.length) (hj : j < l.length) (e : l[i] = l[j]) : i = j := by
  have h2 := List.pairwise_iff_getElem.1 h
  rcases Nat.lt_trichotomy i j with h1 | h1 | h1
  · exact absurd e (h2 i j hi hj h1)
  · exact h1
  · exact absurd e.symm (h2 j i hj hi h1)
theorem nodup_map_on {α β : Type} {f : α → β} : ∀ {l : List α}, l.Nodup → (∀ a, a ∈ l → ∀ b, b ∈ l → f a = f b → a = b) → (l.map f).Nodup
  | [], _, _ => by simp
  | a :: l, h, hf => by
    rw [List.nodup_cons] at h
    rw [List.map_cons, List.nodup_cons]
    refine ⟨fun hm => ?_, nodup_map_on h.2 fun x hx y hy => hf x (List.mem_cons_of_mem _ hx) y (List.mem_cons_of_mem _ hy)⟩
    obtain ⟨b, hb, e⟩ := List.mem_map.1 hm
    have := hf b (List.mem_cons_of_mem _ hb) a List.mem_cons_self e
    subst this
    exact h.1 hb
def setK (l : List Int) (H : List HO) : AV → List HO → Prop := fun r H' => ∃ es c it, (setI l = [] ∧ r = .sl .nil [] ∧ H' = H ++ [.mp es c, it]) ∨ (0 < (setI l).length ∧ r = .mv (H.length + 2) (setI l).length 1 0 (setI l).length ∧ H' = H ++ [.mp es c, it, .row (setI l).length 1 (ints' (setI l))])
theorem S_set (H : List HO) (l : List Int) (hl : l.length ≤ 1000000) : TS Tryz.prog 92 [.sl .no (ints' l)] H (setK l H) := by
  refine (TS.bodyM [29] mix Tryz.func92 (by kernel_rfl) rfl (by kernel_rfl) (by simp) ?_)
  simp
  refine vc_loop (fun i : Nat => l.length - i) (fun i e H' => ∃ m : List (Int × Int), e 3 = .map H.length ∧ e 9 = .sl .no (ints' l) ∧ e 10 = .int .i64 l.length ∧ e 11 = .int .i64 i ∧ i ≤ l.length ∧ (m.map Prod.fst).Nodup ∧ (∀ x, x ∈ m.map Prod.fst ↔ x ∈ l.take i) ∧ H' = H ++ [.mp (mpA (AV.int .i64) (AV.int .i64) m) (some 0)]) 0 ?_ ?_
  · refine ⟨[], ?_⟩
    simp [mpA]
  rintro i e H' ⟨m, e3, e9, e10, e11, hi, hnd, hmem, rfl⟩
  by_cases hlt : i < l.length
  · have ew := wrap_next hlt (by omega)
    have hks : keysT Tryz.prog 3 (.int .i64 l[i]) (mpA (AV.int .i64) (AV.int .i64) m) := by rw [keys_int]; exact un_3
    have step : ∀ v : Int, ∃ s', l.length - s' < l.length - i ∧ IntKind.i64.wrap (i + 1) = (s' : Int) ∧ s' ≤ l.length ∧ ∃ x : List (Int × Int), (x.map Prod.fst).Nodup ∧ (∀ y : Int, (∃ z, (y, z) ∈ x) ↔ y ∈ l.take s') ∧ putK (.int .i64 l[i]) (.int .i64 v) (mpA (AV.int .i64) (AV.int .i64) m) = mpA (AV.int .i64) (AV.int .i64) x := by
      intro v
      refine ⟨i + 1, by omega, ew, by omega, putL l[i] v m, putL_keys hnd, fun y => ?_, putK_mpA (kf := AV.int .i64) (g := AV.int .i64)⟩
      have h1 : (∃ z, (y, z) ∈ putL l[i] v m) ↔ y ∈ (putL l[i] v m).map Prod.fst := by simp
      have h2 : getL y (putL l[i] v m) = none ↔ y ∉ (putL l[i] v m).map Prod.fst := getL_none_iff
      have h3 : getL y m = none ↔ y ∉ m.map Prod.fst := getL_none_iff
      rw [getL_put] at h2
      rw [h1, take_next hlt, List.mem_append, List.mem_singleton, ← hmem y]
      by_cases hy : y = l[i]
      · rw [if_pos hy] at h2
        simp only [reduceCtorEq, false_iff, Classical.not_not] at h2
        exact ⟨fun _ => .inr hy, fun _ => h2⟩
      · rw [if_neg hy] at h2
        grind
    simp [e3, e9, e10, e11, hlt]
    refine ⟨hks, ?_⟩
    rw [findK_mpA]
    cases hg : lkp l[i] m 0 with
    | none =>
      simp
      exact ⟨hks, step _⟩
    | some p =>
      simp
      exact ⟨hks, step _⟩
  have hil : i = l.length := by omega
  subst hil
  rw [List.take_length] at hmem
  have hml : (mpA (AV.int .i64) (AV.int .i64) m).length = m.length := mpA_length
  simp [e3, e9, e10, e11]
  rw [hml]
  have hml2 : m.length ≤ l.length := by
    have h := nodup_le hnd fun x hx => (hmem x).1 hx
    simpa using h
  clear e3 e9 e10 e11 hlt hi
  refine vc_loop (fun k : Nat => m.length - k) (fun k e H' => ∃ (seen : List Nat) (x : AV) (J : List HO), e 6 = x ∧ e 21 = .ptr (H.length + 1) 0 ∧ seen.length = k ∧ seen.Nodup ∧ (∀ j, j ∈ seen → j < m.length) ∧ ((seen = [] ∧ x = .sl .nil [] ∧ J = []) ∨ (0 < k ∧ x = .mv (H.length + 2) k 1 0 k ∧ J = [.row k 1 (ints' (seen.map fun j => (m.map Prod.fst).getD j 0))])) ∧ H' = H ++ .mp (mpA (AV.int .i64) (AV.int .i64) m) (some 0) :: .it H.length 0 m.length seen :: J) 0 ?_ ?_
  · refine ⟨[], .sl .nil [], [], ?_⟩
    simp
  rintro k e H' ⟨seen, x, J, e6, e21, hk, hsn, hsl, hx, rfl⟩
  simp [e6, e21]
  refine nx2K.intro hml (fun hall => ?_) (fun j en hj hns => ?_)
  · simp [e6, e21]
    have hDn : (seen.map fun j => (m.map Prod.fst).getD j 0).Nodup := by
      refine nodup_map_on hsn fun a ha b hb hab => ?_
      have h1 := hsl a ha
      have h2 := hsl b hb
      simp [h1, h2] at hab
      exact nodup_get hnd (by simpa using h1) (by simpa using h2) (by simpa using hab)
    have hDm : ∀ x, x ∈ (seen.map fun j => (m.map Prod.fst).getD j 0) ↔ x ∈ l := fun x => by
      rw [← hmem x]
      simp only [List.mem_map]
      constructor
      · rintro ⟨a, ha, rfl⟩
        have h1 := hsl a ha
        exact ⟨m[a], List.getElem_mem h1, by simp [h1]⟩
      · rintro ⟨q, hq, rfl⟩
        obtain ⟨a, ha, rfl⟩ := List.getElem_of_mem hq
        exact ⟨a, hall a ha, by simp [ha]⟩
    have hS := sort_set hDn hDm
    rcases hx with ⟨rfl, rfl, rfl⟩ | ⟨hk0, rfl, rfl⟩
    · refine TS.pt S_sortNone ?_
      simp [e6, e21]
      refine ⟨_, _, _, .inl ⟨?_, rfl, rfl⟩⟩
      rw [← hS]; simp [sortI]
    · have hDl : (seen.map fun j => (m.map Prod.fst).getD j 0).length = k := by rw [List.length_map, hk]
      have hkl : k ≤ m.length := by rw [← hk]; exact nodup_bound hsn hsl
      have hks : (setI l).length = k := by rw [← hS, sortI_len, hDl]
      generalize (seen.map fun j => (m.map Prod.fst).getD j 0) = D at *
      refine TS.pt (S_sortInts (n := k) (zs := D) hDl (by simp) (by have := hml2; omega) hk0) ?_
      rw [hS]
      simp [e6, e21]
      refine ⟨_, _, _, .inr ⟨by omega, by rw [hks], by rw [hks]⟩⟩
  · have hjl : j < m.length := by
      have := (List.getElem?_eq_some_iff.1 hj).1
      rwa [hml] at this
    have hen : en = (.int .i64 m[j].1, .int .i64 m[j].2) := by
      simp [mpA, hjl] at hj
      exact hj.symm
    subst hen
    have hkl : seen.length < m.length := by
      have : (seen ++ [j]).length ≤ m.length := nodup_bound (List.nodup_append.2 ⟨hsn, by simp, by simp; exact fun a ha => fun e => hns (e ▸ ha)⟩) fun a ha => by
        rcases List.mem_append.1 ha with ha | ha
        · exact hsl a ha
        · simp at ha; omega
      simp at this; omega
    have hn2 : (seen ++ [j]).Nodup := List.nodup_append.2 ⟨hsn, by simp, by simp; exact fun a ha => fun e => hns (e ▸ ha)⟩
    have hl2 : ∀ a, a ∈ seen ++ [j] → a < m.length := fun a ha => by
      rcases List.mem_append.1 ha with ha | ha
      · exact hsl a ha
      · simp at ha; omega
    simp [e6, e21]
    rw [en2K_some hj hml]
    rcases hx with ⟨rfl, rfl, rfl⟩ | ⟨hk0, rfl, rfl⟩
    · simp [e6, e21]
      simp at hk
      exact ⟨1, by simp at hkl; omega, [j], rfl, by simp, by simpa using hjl, ⟨by omega, rfl, by simp [hjl]⟩, rfl⟩
    · simp [e6, e21]
      exact ⟨⟨by omega, by omega⟩, k + 1, by omega, seen ++ [j], by simp [hk], hn2, hl2, ⟨by omega, rfl, by simp [hjl]⟩, rfl⟩
end Go.Proofs.YtjplcdeaedflpaaGreatDoor.PL
namespace Go.Proofs.YtjplcdeaedflpaaGreatDoor.PL
open Go.Proofs
set_option linter.unusedVariables false
set_option linter.unusedSimpArgs false
theorem T_indexI (l : List Int) (v : Int) (hl : l.length < 4611686018427387904) : ∃ n : Int, T Tryz.prog 60 [.sl .no (ints' l), .int .i64 v] (.int .i64 n) ∧ decide (0 ≤ n) = decide (v ∈ l) ∧ n = match l.findIdx? (fun x => decide (x = v)) with | some i => (i : Int) | none => -1 := by
  refine ⟨match l.findIdx? (fun x => decide (x = v)) with | some i => (i : Int) | none => -1, ?_, ?_, rfl⟩
  · refine T.intro (TS.body mix Tryz.func60 (by kernel_rfl) rfl (by kernel_rfl) (by simp) ?_)
    simp
    refine vc_loop (fun i : Nat => l.length - i) (fun i e H => e 1 = .int .i64 v ∧ e 0 = .sl .no (ints' l) ∧ e 7 = .int .i64 l.length ∧ e 8 = .int .i64 i ∧ i ≤ l.length ∧ (∀ j (h : j < l.length), j < i → ¬ l[j] = v)) 0 ?_ ?_
    · simp
    rintro i e H ⟨h1, h0, h7, h8, hi, hno⟩
    by_cases h : i < l.length
    · simp [h1, h0, h7, h8, h]
      refine condK_of (fun h' => ?_) (fun h' => ?_)
      · simp at h'
        simp
        have : l.findIdx? (fun x => decide (x = v)) = some i := by
          rw [List.findIdx?_eq_some_iff_getElem]
          exact ⟨h, by simp [h'], fun j hj => by simpa using hno j (by omega) hj⟩
        rw [this]
      · simp at h'
        simp [h1, h0, h7, h8]
        refine ⟨i + 1, by omega, wrap_next h (by omega), by omega, fun j hj hji => ?_⟩
        rcases Nat.lt_or_ge j i with h2 | h2
        · exact hno j hj h2
        · have : j = i := by omega
          subst this
          exact fun e => h' e.symm
    · have : i = l.length := by omega
      subst this
      simp [h7, h8]
      have : l.findIdx? (fun x => decide (x = v)) = none := by
        rw [List.findIdx?_eq_none_iff]
        intro x hx
        obtain ⟨j, hj, rfl⟩ := List.getElem_of_mem hx
        simpa using hno j hj hj
      rw [this]
  · cases h : l.findIdx? (fun x => decide (x = v)) with
    | none =>
      rw [List.findIdx?_eq_none_iff] at h
      have : v ∉ l := fun hv => by simpa using h v hv
      simp [this]
    | some i =>
      obtain ⟨h1, h2, _⟩ := List.findIdx?_eq_some_iff_getElem.1 h
      have : v ∈ l := by simp at h2; rw [← h2]; exact List.getElem_mem h1
      simp [this]
theorem T_hasI (l : List Int) (v : Int) (hl : l.length < 4611686018427387904) : T Tryz.prog 94 [.sl .no (ints' l), .int .i64 v] (.bool (decide (v ∈ l))) := by
  obtain ⟨n, h1, h2, _⟩ := T_indexI l v hl
  refine T.intro (TS.body mix Tryz.func94 (by kernel_rfl) rfl (by kernel_rfl) (by simp) ?_)
  simp
  refine TS.callW h1 (Dws.self (by simp)) ?_
  simp
  simpa using h2
/-- the first one for which it is so, of a row -/
theorem S_indexMv (H : List HO) (r n : Nat) (f : FuncId) (caps : List AV) (l : List Int) (q : Int → Bool) (hn : l.length = n) (hr : H[r]? = some (.row n 1 (ints' l))) (hl : n < 4611686018427387904) (hq : ∀ x, x ∈ l → TS Tryz.prog f (.int .i64 x :: caps) H (pt (.bool (q x)) H)) : TS Tryz.prog 112 [.mv r n 1 0 n, .fn (.func f) [] caps] H (pt (.int .i64 (match l.findIdx? q with | some i => (i : Int) | none => -1)) H) := by
  subst hn
  refine TS.body mix Tryz.func112 (by kernel_rfl) rfl (by kernel_rfl) (by simp) ?_
  simp
  refine vc_loop (fun i : Nat => l.length - i) (fun i e H' => e 0 = .mv r l.length 1 0 l.length ∧ e 1 = .fn (.func f) [] caps ∧ e 7 = .int .i64 l.length ∧ e 8 = .int .i64 i ∧ i ≤ l.length ∧ (∀ j (h : j < l.length), j < i → q l[j] = false) ∧ H' = H) 0 ?_ ?_
  · simp
  rintro i e H' ⟨h0, h1, h7, h8, hi, hno, rfl⟩
  by_cases hlt : i < l.length
  · have ew := wrap_next hlt (by omega)
    have hqi := hq l[i] (List.getElem_mem hlt)
    simp [h0, h1, h7, h8, hlt, hr]
    refine TS.pt hqi ?_
    simp [h0, h1, h7, h8, hlt]
    refine condK_of (fun c => ?_) (fun c => ?_)
    · have : l.findIdx? q = some i := by
        rw [List.findIdx?_eq_some_iff_getElem]
        exact ⟨hlt, c, fun j hj => by rw [hno j (by omega) hj]; simp⟩
      rw [this]
      simp
    · simp [h0, h1, h7, h8, hlt]
      refine ⟨i + 1, by omega, ew, by omega, fun j h hj => ?_⟩
      rcases Nat.lt_or_ge j i with h2 | h2
      · exact hno j h h2
      · have : j = i := by omega
        subst this; exact c
  · have : i = l.length := by omega
    subst this
    have : l.findIdx? q = none := by
      rw [List.findIdx?_eq_none_iff]
      intro x hx
      obtain ⟨j, hj, rfl⟩ := List.getElem_of_mem hx
      exact hno j hj hj
    rw [this]
    simp [h0, h1, h7, h8]
def keepI (q : Int → Bool) (l : List Int) : List Int := l.filter fun x => !q x
theorem keepI_none {q : Int → Bool} {l : List Int} (h : ∀ j (h : j < l.length), q l[j] = false) : keepI q l = l := by
  unfold keepI
  rw [List.filter_eq_self]
  intro x hx
  obtain ⟨j, hj, rfl⟩ := List.getElem_of_mem hx
  simp [h j hj]
theorem keepI_next {q : Int → Bool} {l : List Int} {i : Nat} (h : i < l.length) : keepI q (l.take (i + 1)) = keepI q (l.take i) ++ if q l[i] = true then [] else [l[i]] := by
  unfold keepI
  rw [take_next h, List.filter_append]
  by_cases hq : q l[i] = true <;> simp [hq]
/-- those for which it is so are taken out of a row -/
theorem S_delMv (H : List HO) (r n : Nat) (f : FuncId) (caps : List AV) (l : List Int) (q : Int → Bool) (hn : l.length = n) (hr : H[r]? = some (.row n 1 (ints' l))) (hl : n < 4611686018427387904) (hq : ∀ cs x, x ∈ l → TS Tryz.prog f (.int .i64 x :: caps) (H.set r (.row n 1 cs)) (pt (.bool (q x)) (H.set r (.row n 1 cs)))) : TS Tryz.prog 91 [.mv r n 1 0 n, .fn (.func f) [] caps] H (fun x H' => ∃ cs, x = .mv r n 1 0 (keepI q l).length ∧ H' = H.set r (.row n 1 cs) ∧ cs.length = n ∧ cs.take (keepI q l).length = ints' (keepI q l)) := by
  subst hn
  have hrl := (List.getElem?_eq_some_iff.1 hr).1
  have hset : H.set r (.row l.length 1 (ints' l)) = H := set_self' hr
  have hix := S_indexMv H r l.length f caps l q rfl hr hl (fun x hx => by have := hq (ints' l) x hx; rwa [hset] at this)
  refine TS.body mix Tryz.func91 (by kernel_rfl) rfl (by kernel_rfl) (by simp) ?_
  simp
  refine TS.pt hix ?_
  cases hf : l.findIdx? q with
  | none =>
    rw [List.findIdx?_eq_none_iff] at hf
    have hk : keepI q l = l := keepI_none fun j hj => hf _ (List.getElem_mem hj)
    simp
    refine ⟨by rw [hk], ints' l, hset.symm, by simp, ?_⟩
    rw [hk]
    simp
  | some j0 =>
    obtain ⟨g1, g2, g3⟩ := List.findIdx?_eq_some_iff_getElem.1 hf
    have ew0 : IntKind.i64.wrap ((j0 : Int) + 1) = ((j0 + 1 : Nat) : Int) := wrap_next g1 (by omega)
    have hk0 : keepI q (l.take (j0 + 1)) = l.take j0 := by
      rw [keepI_next g1, if_pos g2, List.append_nil]
      exact keepI_none fun j hj => by
        rw [List.length_take] at hj
        rw [List.getElem_take]
        simpa using g3 j (by omega)
    have hneg : ¬ ((j0 : Int) = -1) := by omega
    simp [hneg]
    refine vc_loop (fun i : Nat => l.length - i) (fun i e H' => ∃ D R : List Int, e 0 = .mv r l.length 1 0 l.length ∧ e 1 = .fn (.func f) [] caps ∧ e 5 = .int .i64 D.length ∧ e 6 = .int .i64 i ∧ i ≤ l.length ∧ D.length < i ∧ D = keepI q (l.take i) ∧ R = D ++ l.drop D.length ∧ H' = H.set r (.row l.length 1 (ints' R))) (j0 + 1) ?_ ?_
    · have hlt0 : (l.take j0).length = j0 := by rw [List.length_take]; omega
      refine ⟨l.take j0, l, ?_⟩
      simp [hk0, hlt0, ew0]
      exact ⟨by omega, hset.symm⟩
    rintro i e H' ⟨D, R, h0, h1, h5, h6, hi, hki, hD, hR, rfl⟩
    have hRl : R.length = l.length := by rw [hR, List.length_append, List.length_drop]; omega
    by_cases hlt : i < l.length
    · have ew := wrap_next hlt (by omega)
      have hqi := hq (ints' R) l[i] (List.getElem_mem hlt)
      have hnx := keepI_next (q := q) hlt
      rw [← hD] at hnx
      have hil : i < R.length := by omega
      have hRi : R[i] = l[i] := by
        subst hR
        rw [List.getElem_append_right (by omega), List.getElem_drop]
        congr 1
        omega
      have ewD : IntKind.i64.wrap ((D.length : Int) + 1) = ((D.length + 1 : Nat) : Int) := wrap_next hki (by omega)
      simp [h0, h1, h5, h6, hlt, hrl, hil, hRi, hRl]
      refine TS.pt hqi ?_
      cases hqv : q l[i] with
      | true =>
        rw [hqv, if_pos rfl, List.append_nil] at hnx
        simp [h0, h1, h5, h6, hlt, hrl, hil, hRi, hRl]
        exact ⟨i + 1, by omega, D, rfl, ew, by omega, by omega, hnx.symm, by rw [hR]⟩
      | false =>
        rw [hqv] at hnx
        simp at hnx
        simp [h0, h1, h5, h6, hlt, hrl, hil, hRi, hRl]
        have e1 : R.take D.length = D := by rw [hR, List.take_left']; rfl
        have e2 : R.drop (D.length + 1) = l.drop (D.length + 1) := by rw [hR, ← List.drop_drop, List.drop_left, List.drop_drop]
        refine ⟨by omega, by omega, i + 1, by omega, D ++ [l[i]], by simpa using ewD, ew, by omega, by simp; omega, hnx.symm, ?_⟩
        rw [e1, e2]
        simp
    · have hil : i = l.length := by omega
      subst hil
      rw [List.take_length] at hD
      simp [h0, h1, h5, h6, hrl, hRl]
      have e1 : R.take D.length = D := by rw [hR, List.take_left']; rfl
      have e3 : (repeatA [AV.int .i64 0] (l.length - D.length)).length = l.length - D.length := by rw [repeatA_len]; simp
      refine ⟨by omega, by rw [hD], _, rfl, ?_, ?_⟩
      · simp [e1, e3, hRl]
        omega
      · rw [e1, ← hD, List.take_left']
        simp
theorem S_shared1 (H : List HO) (k : Nat) (b : List Int) (v : Int) (hk : H[k]? = some (.box [.sl .no (ints' b)])) (hb : b.length < 4611686018427387904) : TS Tryz.prog 93 [.int .i64 v, .ptr k 0] H (pt (.bool (!decide (v ∈ b))) H) := by
  have hkl := (List.getElem?_eq_some_iff.1 hk).1
  have k1 := T_hasI b v hb
  refine TS.body mix Tryz.func93 (by kernel_rfl) rfl (by kernel_rfl) (by simp) ?_
  simp [hk]
  refine TS.callW k1 (Dws.self (by simp)) ?_
  simp
theorem S_within1 (H : List HO) (k : Nat) (b : List Int) (v : Int) (hk : H[k]? = some (.box [.sl .no (ints' b)])) (hb : b.length < 4611686018427387904) : TS Tryz.prog 160 [.int .i64 v, .ptr k 0] H (pt (.bool (!decide (v ∈ b))) H) := by
  have hkl := (List.getElem?_eq_some_iff.1 hk).1
  have k1 := T_hasI b v hb
  refine TS.body mix Tryz.func160 (by kernel_rfl) rfl (by kernel_rfl) (by simp) ?_
  simp [hk]
  refine TS.callW k1 (Dws.self (by simp)) ?_
  simp
def withinI (a b : List Int) : Bool := !(a.any fun v => !decide (v ∈ b))
def sharedI (a b : List Int) : List Int := (setI a).filter fun v => decide (v ∈ b)
theorem sharedI_keep (a b : List Int) : sharedI a b = keepI (fun v => !decide (v ∈ b)) (setI a) := by simp [sharedI, keepI]
theorem rises_filter {q : Int → Bool} {l : List Int} (h : Rises l) : Rises (l.filter q) := List.Pairwise.sublist List.filter_sublist h
theorem setI_len (l : List Int) : (setI l).length ≤ l.length := by
  refine nodup_le ?_ fun x hx => setI_mem.1 hx
  exact (setI_rises l).imp fun h => by omega
theorem T_set (l : List Int) (hl : l.length ≤ 1000000) : T Tryz.prog 92 [.sl .no (ints' l)] (.sl .no (ints' (setI l))) := by
  refine T.introF ((S_set [] l hl).mono ?_)
  rintro r H' ⟨es, c, it, ⟨h1, rfl, rfl⟩ | ⟨h1, rfl, rfl⟩⟩
  · rw [h1]
    exact Frz.slN (f := AV.int .i64) (l := [])
  · exact Frz.mvA (f := AV.int .i64) (sz := 1) (l := setI l) (by simp) rfl
theorem T_within (a b : List Int) (ha : a.length < 4611686018427387904) (hb : b.length < 4611686018427387904) : T Tryz.prog 140 [.sl .no (ints' a), .sl .no (ints' b)] (.bool (withinI a b)) := by
  have ks := S_containsFunc [.box [.sl .no (ints' b)]] 160 [.ptr 0 0] a (fun v => !decide (v ∈ b)) ha fun x _ => S_within1 _ 0 b x rfl hb
  refine T.intro (TS.body mix Tryz.func140 (by kernel_rfl) rfl (by kernel_rfl) (by simp) ?_)
  simp
  refine TS.pt ks ?_
  simp [withinI]
theorem S_indexNil (H : List HO) (g : AV) : TS Tryz.prog 112 [.sl .nil [], g] H (pt (.int .i64 (-1)) H) := by
  refine TS.body mix Tryz.func112 (by kernel_rfl) rfl (by kernel_rfl) (by simp) ?_
  simp
  refine vc_loop (fun i : Nat => 0) (fun i e H' => e 7 = .int .i64 0 ∧ e 8 = .int .i64 0 ∧ H' = H) 0 ?_ ?_
  · simp
  rintro i e H' ⟨h7, h8, rfl⟩
  simp [h7, h8]
theorem S_delNil (H : List HO) (g : AV) : TS Tryz.prog 91 [.sl .nil [], g] H (pt (.sl .nil []) H) := by
  refine TS.body mix Tryz.func91 (by kernel_rfl) rfl (by kernel_rfl) (by simp) ?_
  simp
  refine TS.pt (S_indexNil H g) ?_
  simp
theorem T_shared (a b : List Int) (ha : a.length ≤ 1000000) (hb : b.length < 4611686018427387904) : T Tryz.prog 55 [.sl .no (ints' a), .sl .no (ints' b)] (.sl .no (ints' (sharedI a b))) := by
  refine T.introF (TS.body mix Tryz.func55 (by kernel_rfl) rfl (by kernel_rfl) (by simp) ?_)
  simp
  refine (S_set [.box [.sl .no (ints' b)]] a ha).mono ?_
  rintro r H' ⟨es, c, it, ⟨h1, rfl, rfl⟩ | ⟨h1, rfl, rfl⟩⟩
  · have : sharedI a b = [] := by unfold sharedI; rw [h1]; rfl
    rw [this]
    simp
    refine TS.pt (S_delNil _ _) ?_
    simp
    exact Frz.slN (f := AV.int .i64) (l := [])
  · have hsl := setI_len a
    simp
    refine (S_delMv _ 3 (setI a).length 93 [.ptr 0 0] (setI a) (fun v => !decide (v ∈ b)) rfl rfl (by omega) fun cs x _ => S_shared1 _ 0 b x rfl hb).mono ?_
    rintro x H' ⟨cs, rfl, rfl, h2, h3⟩
    rw [sharedI_keep]
    simp
    refine .mv rfl ?_ (by simp) (fun y hy => by obtain ⟨a, ha, rfl⟩ := mem_avs.1 hy; rfl)
    rw [Nat.zero_mul, List.drop_zero, Nat.mul_one, h3]
    have hfl : ∀ l : List Int, (ints' l).flatMap AV.cells = ints' l := fun l => by induction l with | nil => rfl | cons a l ih => simp
    rw [hfl]
    have := FrzC.refl (H := [.box [.sl .no (ints' b)], .mp es c, it, .row (setI a).length 1 cs]) (Selfs.flat (f := AV.int .i64) (l := keepI (fun v => !decide (v ∈ b)) (setI a)))
    rwa [hfl] at this
end Go.Proofs.YtjplcdeaedflpaaGreatDoor.PL
namespace Go.Proofs.YtjplcdeaedflpaaGreatDoor.PL
open Go.Proofs
set_option linter.unusedVariables false
set_option linter.unusedSimpArgs false
theorem T_has21 (l : List Int) (v : Int) (hl : l.length < 4611686018427387904) : T Tryz.prog 62 [.sl .no (ints' l), .int .i64 v] (.bool (decide (v ∈ l))) := by
  refine T.intro (TS.body mix Tryz.func62 (by kernel_rfl) rfl (by kernel_rfl) (by simp) ?_)
  simp
  refine vc_loop (fun i : Nat => l.length - i) (fun i e H => e 0 = .sl .no (ints' l) ∧ e 1 = .int .i64 v ∧ e 5 = .int .i64 i ∧ i ≤ l.length ∧ v ∉ l.take i) 0 ?_ ?_
  · simp
  rintro i e H ⟨h0, h1, h5, hi, hno⟩
  by_cases h : i < l.length
  · simp [h0, h1, h5, h]
    refine condK_of (fun h' => ?_) (fun h' => ?_)
    · simp at h'
      have : v ∈ l := by rw [← h']; exact List.getElem_mem h
      simp [this]
    · simp at h'
      simp [h0, h1, h5]
      refine ⟨i + 1, by omega, wrap_next h (by omega), by omega, ?_⟩
      rw [take_next h, List.mem_append]
      simp [hno]
      exact fun e => h' e.symm
  · have : i = l.length := by omega
    subst this
    rw [List.take_length] at hno
    simp [h0, h1, h5, hno]
theorem putI_in {v : Int} : ∀ {l : List Int}, Rises l → v ∈ l → putI v l = l
  | x :: l, h, hv => by
    unfold Rises at h
    rw [List.pairwise_cons] at h
    unfold putI
    rcases List.mem_cons.1 hv with rfl | hv
    · simp
    · have := h.1 v hv
      rw [if_pos this, putI_in h.2 hv]
theorem putI_at {v : Int} : ∀ {l : List Int} {k : Nat}, k ≤ l.length → (∀ j (h : j < l.length), j < k → l[j] < v) → (∀ h : k < l.length, ¬ l[k] < v) → v ∉ l → putI v l = l.take k ++ v :: l.drop k
  | [], k, hk, _, _, _ => by simp at hk; subst hk; rfl
  | x :: l, 0, _, _, h2, h3 => by
    have := h2 (by simp)
    simp at this h3
    unfold putI
    rw [if_neg (by omega), if_neg (by omega)]
    rfl
  | x :: l, k + 1, hk, h1, h2, h3 => by
    have h0 : x < v := h1 0 (by simp) (by omega)
    unfold putI
    rw [if_pos h0, putI_at (k := k) (by simpa using hk) (fun j a b => h1 (j + 1) (by simpa using a) (by omega)) (fun a => h2 (by simpa using a)) (fun hm => h3 (List.mem_cons_of_mem _ hm))]
    rfl
theorem T_put21 (l : List Int) (v : Int) (hl : l.length ≤ 1000000) (hr : Rises l) : T Tryz.prog 101 [.sl .no (ints' l), .int .i64 v] (.sl .no (ints' (putI v l))) := by
  have kh := T_has21 l v (by omega)
  refine T.introF (TS.body mix Tryz.func101 (by kernel_rfl) rfl (by kernel_rfl) (by simp) ?_)
  simp
  refine TS.callW kh (Dws.self (by simp)) ?_
  by_cases hv : v ∈ l
  · rw [putI_in hr hv]
    simp [hv]
    exact Frz.slN (f := AV.int .i64)
  · simp [hv]
    refine vc_loop (fun i : Nat => l.length - i) (fun i e H => e 0 = .sl .no (ints' l) ∧ e 1 = .int .i64 v ∧ e 5 = .int .i64 i ∧ i ≤ l.length ∧ (∀ j (h : j < l.length), j < i → l[j] < v) ∧ H = []) 0 ?_ ?_
    · simp
    rintro i e H ⟨h0, h1, h5, hi, hlo, rfl⟩
    have fin : (∀ h : i < l.length, ¬ l[i] < v) → putI v l = l.take i ++ v :: l.drop i := fun h => putI_at hi hlo h hv
    by_cases h : i < l.length
    · by_cases h2 : l[i] < v
      · simp [h0, h1, h5, h, h2]
        refine ⟨i + 1, by omega, wrap_next h (by omega), by omega, fun j hj hji => ?_⟩
        rcases Nat.lt_or_ge j i with h3 | h3
        · exact hlo j hj h3
        · have : j = i := by omega
          subst this; exact h2
      · rw [fin fun _ => h2]
        have hm : min i l.length = i := by omega
        by_cases hi0 : i = 0
        · subst hi0
          simp [h0, h1, h5, h, h2]
          exact ⟨⟨by omega, by omega⟩, Frz.slN (f := AV.int .i64) (l := v :: l)⟩
        · simp [h0, h1, h5, h, h2]
          simp [hm, ownAt, appJ, appK, hi0]
          exact ⟨by omega, ⟨by omega, by omega⟩, ⟨by omega, by omega⟩, by omega, ⟨by omega, by omega⟩, Frz.slN (f := AV.int .i64) (l := l.take i ++ v :: l.drop i)⟩
    · rw [fin fun x => absurd x h]
      have hm : min i l.length = i := by omega
      by_cases hi0 : i = 0
      · subst hi0
        simp [h0, h1, h5, h]
        exact ⟨⟨by omega, by omega⟩, Frz.slN (f := AV.int .i64) (l := v :: l)⟩
      · simp [h0, h1, h5, h]
        simp [hm, ownAt, appJ, appK, hi0]
        exact ⟨by omega, ⟨by omega, by omega⟩, ⟨by omega, by omega⟩, by omega, ⟨by omega, by omega⟩, Frz.slN (f := AV.int .i64) (l := l.take i ++ v :: l.drop i)⟩
theorem setI_next {l : List Int} {i : Nat} (h : i < l.length) : setI (l.take (i + 1)) = putI l[i] (setI (l.take i)) := by
  unfold setI
  rw [take_next h, List.foldl_append]
  rfl
theorem T_rset21 (l : List Int) (hl : l.length ≤ 1000000) : T Tryz.prog 61 [.sl .no (ints' l)] (.sl .no (ints' (setI l))) := by
  refine T.introF (TS.body mix Tryz.func61 (by kernel_rfl) rfl (by kernel_rfl) (by simp) ?_)
  simp
  refine vc_loop (fun i : Nat => l.length - i) (fun i e H => e 0 = .sl .no (ints' l) ∧ (∃ own, e 3 = .sl own (ints' (setI (l.take i)))) ∧ e 4 = .int .i64 i ∧ i ≤ l.length ∧ H = []) 0 ?_ ?_
  · simp [setI]
  rintro i e H ⟨h0, ⟨own, h3⟩, h4, hi, rfl⟩
  by_cases h : i < l.length
  · have hsl := setI_len (l.take i)
    rw [List.length_take] at hsl
    have kp := T_put21 (setI (l.take i)) l[i] (by omega) (setI_rises _)
    rw [← setI_next h] at kp
    simp [h0, h3, h4, h]
    refine TS.callW kp (.cons (.sl (Dws.self (by simp))) (.cons (.self (by simp)) .nil)) ?_
    simp [h0, h3, h4, h]
    exact ⟨i + 1, by omega, rfl, wrap_next h (by omega), by omega⟩
  · have : i = l.length := by omega
    subst this
    simp [h0, h3, h4]
    exact Frz.slN (f := AV.int .i64)
/-- those of the first i that the other has -/
def shR (b : List Int) (l : List Int) : List Int := setI (l.filter fun v => decide (v ∈ b))
theorem shR_next {b l : List Int} {i : Nat} (h : i < l.length) : shR b (l.take (i + 1)) = if l[i] ∈ b then putI l[i] (shR b (l.take i)) else shR b (l.take i) := by
  unfold shR setI
  rw [take_next h, List.filter_append, List.foldl_append]
  by_cases hb : l[i] ∈ b <;> simp [hb]
theorem shR_eq (a b : List Int) : shR b a = sharedI a b := by
  refine rises_eq (setI_rises _) (rises_filter (setI_rises a)) fun x => ?_
  rw [shR, setI_mem, sharedI, List.mem_filter, List.mem_filter, setI_mem]
theorem T_rshared21 (a b : List Int) (ha : a.length ≤ 1000000) (hb : b.length < 4611686018427387904) : T Tryz.prog 75 [.sl .no (ints' a), .sl .no (ints' b)] (.sl .no (ints' (sharedI a b))) := by
  refine T.introF (TS.body mix Tryz.func75 (by kernel_rfl) rfl (by kernel_rfl) (by simp) ?_)
  simp
  refine vc_loop (fun i : Nat => a.length - i) (fun i e H => e 0 = .sl .no (ints' a) ∧ e 1 = .sl .no (ints' b) ∧ (∃ own, e 5 = .sl own (ints' (shR b (a.take i)))) ∧ e 6 = .int .i64 i ∧ i ≤ a.length ∧ H = []) 0 ?_ ?_
  · simp [shR, setI]
  rintro i e H ⟨h0, h1, ⟨own, h5⟩, h6, hi, rfl⟩
  by_cases h : i < a.length
  · have hsl : (shR b (a.take i)).length ≤ i := by
      have h1 := setI_len ((a.take i).filter fun v => decide (v ∈ b))
      have h2 := List.length_filter_le (fun v => decide (v ∈ b)) (a.take i)
      rw [List.length_take] at h2
      unfold shR
      omega
    have kh := T_has21 b a[i] hb
    have kp := T_put21 (shR b (a.take i)) a[i] (by omega) (setI_rises _)
    have hnx := shR_next (b := b) h
    simp [h0, h1, h5, h6, h]
    refine TS.callW kh (Dws.self (by simp)) ?_
    by_cases hv : a[i] ∈ b
    · rw [if_pos hv] at hnx
      rw [← hnx] at kp
      simp [h0, h1, h5, h6, h, hv]
      refine TS.callW kp (.cons (.sl (Dws.self (by simp))) (.cons (.self (by simp)) .nil)) ?_
      simp [h0, h1, h5, h6, h]
      exact ⟨i + 1, by omega, rfl, wrap_next h (by omega), by omega⟩
    · rw [if_neg hv] at hnx
      simp [h0, h1, h5, h6, h, hv]
      exact ⟨i + 1, by omega, by rw [hnx], wrap_next h (by omega), by omega⟩
  · have : i = a.length := by omega
    subst this
    rw [List.take_length, shR_eq] at h5
    simp [h0, h1, h5, h6]
    exact Frz.slN (f := AV.int .i64)
end Go.Proofs.YtjplcdeaedflpaaGreatDoor.PL
namespace Go.Proofs.YtjplcdeaedflpaaGreatDoor.PL
open Go.Proofs
set_option linter.unusedVariables false
set_option linter.unusedSimpArgs false
abbrev natA (k : Nat) : AV := .int .i64 (k : Int)
instance : Sized natA 1 := ⟨fun _ => rfl⟩
instance : Plain natA := ⟨fun _ => rfl⟩
abbrev nats' (l : List Nat) : List AV := avs natA l
@[simp] theorem nats_flat {l : List Nat} : (avs natA l).flatMap AV.cells = avs natA l := avs_flat1 fun _ => rfl
/-- the classes stand at C, their row at R -/
def UfAt (H : List HO) (C R : Nat) (up : List Nat) : Prop :=
  (up = [] ∧ ∃ own, own ≠ .no ∧ H[C]? = some (.box [.sl own []])) ∨ (up ≠ [] ∧ H[C]? = some (.box [.mv R up.length 1 0 up.length]) ∧ H[R]? = some (.row up.length 1 (nats' up)))
/-- each hangs on none later -/
def UfOk (up : List Nat) : Prop := ∀ i (h : i < up.length), up[i] ≤ i
def rtF : Nat → List Nat → Nat → Nat
  | 0, _, i => i
  | f + 1, up, i => if up.getD i 0 = i then i else rtF f up (up.getD i 0)
def rt (up : List Nat) (i : Nat) : Nat := rtF (i + 1) up i
theorem UfOk.le {up : List Nat} (ok : UfOk up) (i : Nat) : up.getD i 0 ≤ i := by
  rcases Nat.lt_or_ge i up.length with h | h
  · have := ok i h
    simpa [h] using this
  · simp [h]
theorem rt_root {up : List Nat} {i : Nat} (h : up.getD i 0 = i) : rt up i = i := by unfold rt rtF; rw [if_pos h]
theorem UfOk.set {up : List Nat} (ok : UfOk up) {i r : Nat} (h : r ≤ i) : UfOk (up.set i r) := by
  intro k hk
  rw [List.getElem_set]
  split
  · rename_i e; omega
  · exact ok k (by simpa using hk)
theorem UfAt.set {H : List HO} {C R : Nat} {up vp : List Nat} (h : UfAt H C R up) (hCR : C ≠ R) (hl : vp.length = up.length) (hne : up ≠ []) : UfAt (H.set R (.row up.length 1 (nats' vp))) C R vp := by
  rcases h with ⟨h, _⟩ | ⟨_, hC, hR⟩
  · exact absurd h hne
  · refine .inr ⟨fun e => hne ?_, ?_, ?_⟩
    · subst e; exact List.eq_nil_of_length_eq_zero hl.symm
    · rw [List.getElem?_set_ne (fun e => hCR e.symm), hl]; exact hC
    · rw [List.getElem?_set_self (List.getElem?_eq_some_iff.1 hR).1, hl]
def newH (H : List HO) (n : Nat) : List HO := if n = 0 then H ++ [.box [.sl .exact []]] else H ++ [.box [.mv (H.length + 1) n 1 0 n], .row n 1 (nats' (List.range n))]
theorem new_at (H : List HO) (n : Nat) : UfAt (newH H n) H.length (H.length + 1) (List.range n) := by
  unfold newH UfAt
  by_cases h : n = 0
  · subst h
    exact .inl ⟨rfl, .exact, by simp, by simp⟩
  · rw [if_neg h]
    exact .inr ⟨by simpa using h, by simp, by simp⟩
theorem range_ok (n : Nat) : UfOk (List.range n) := fun i h => by simp
theorem rt_range (n k : Nat) (h : k < n) : rt (List.range n) k = k := rt_root (by simp [h])

end Go.Proofs.YtjplcdeaedflpaaGreatDoor.PL
namespace Go.Proofs.YtjplcdeaedflpaaGreatDoor.PL
open Go.Proofs
set_option linter.unusedVariables false
set_option linter.unusedSimpArgs false
/-- the reference's list tells the roots -/
def Same06 (up r : List Nat) : Prop := r.length = up.length ∧ ∀ k, k < up.length → r.getD k 0 = rt up k
theorem same_new (n : Nat) : Same06 (List.range n) (List.range n) := ⟨rfl, fun k hk => by
  rw [rt_range n k (by simpa using hk)]
  simp at hk
  simp [hk]⟩
abbrev pairA (p : Int × Int) : AV := .agg [.int .i64 p.1, .int .i64 p.2]
instance : Sized pairA 2 := ⟨fun _ => rfl⟩
instance : Plain pairA := ⟨fun _ => rfl⟩
end Go.Proofs.YtjplcdeaedflpaaGreatDoor.PL
namespace Go.Proofs.YtjplcdeaedflpaaGreatDoor.PL
open Go.Proofs
set_option linter.unusedVariables false
set_option linter.unusedSimpArgs false
instance : Selfs natA := ⟨fun a x h => by simp [AV.cells] at h; subst h; simp⟩
theorem UfAt.app {H L : List HO} {C R : Nat} {up : List Nat} (h : UfAt H C R up) : UfAt (H ++ L) C R up := by
  rcases h with ⟨h1, own, ho, hC⟩ | ⟨h1, hC, hR⟩
  · exact .inl ⟨h1, own, ho, getElem?_app hC⟩
  · exact .inr ⟨h1, getElem?_app hC, getElem?_app hR⟩
/-- the classes stand, each number's class told by ρ -/
def UfS (H : List HO) (C R n : Nat) (ρ : Nat → Nat) : Prop := ∃ up, UfAt H C R up ∧ UfOk up ∧ up.length = n ∧ ∀ k, k < n → rt up k = ρ k
structure UfStep (H H' : List HO) (C R n : Nat) (ρ : Nat → Nat) : Prop where
  st : UfS H' C R n ρ
  len : H'.length = H.length
  oth : ∀ j, (j ≠ R ∨ n = 0) → H'[j]? = H[j]?
  new : ∀ h : HO, h ∈ H' → h ∈ H ∨ h.lt H'.length = true
theorem UfStep.refl {H : List HO} {C R n : Nat} {ρ : Nat → Nat} (h : UfS H C R n ρ) : UfStep H H C R n ρ := ⟨h, rfl, fun _ _ => rfl, fun _ h => .inl h⟩
theorem UfStep.trans {H H' H'' : List HO} {C R n : Nat} {ρ ρ' : Nat → Nat} (h : UfStep H H' C R n ρ) (k : UfStep H' H'' C R n ρ') : UfStep H H'' C R n ρ' :=
  ⟨k.st, k.len.trans h.len, fun j hj => (k.oth j hj).trans (h.oth j hj), fun x hx => by
    rcases k.new x hx with h1 | h1
    · rcases h.new x h1 with h2 | h2
      · exact .inl h2
      · exact .inr (by rw [k.len]; exact h2)
    · exact .inr h1⟩
theorem UfS.at {H : List HO} {C R n : Nat} {ρ : Nat → Nat} (h : UfS H C R n ρ) : ∃ up, UfAt H C R up ∧ up.length = n := by
  obtain ⟨up, h1, _, h2, _⟩ := h
  exact ⟨up, h1, h2⟩
end Go.Proofs.YtjplcdeaedflpaaGreatDoor.PL
namespace Go.Proofs.YtjplcdeaedflpaaGreatDoor.PL
open Go.Proofs
set_option linter.unusedVariables false
set_option linter.unusedSimpArgs false
abbrev vals' (l : List Val) : List AV := avs Val.av l
abbrev rowA (l : List Val) : AV := .sl .no (vals' l)
abbrev rows' (l : List (List Val)) : List AV := avs (fun r => AV.sl .no (vals' r)) l
instance : Plain (fun r => AV.sl .no (vals' r)) := ⟨fun r => by simp⟩

theorem reach_lt : reachBytes ≤ 140737488355328 := by decide
def muchN (r : List Val) : Int := (r.map fun v => 1 + (v.s.size : Int)).sum
def muchL : List (List Val) → Int → Bool
  | [], _ => false
  | r :: rs, n => if 40 < r.length then true else if 2000 < n + muchN r then true else muchL rs (n + muchN r)
def much (L : List (List Val)) : Bool := muchL (L.take 60) 0 || decide (50 < L.length)
theorem muchN_pos : ∀ r : List Val, 0 ≤ muchN r
  | [] => by simp [muchN]
  | v :: r => by have := muchN_pos r; simp only [muchN, List.map_cons, List.sum_cons] at *; omega
theorem muchN_next {r : List Val} {j : Nat} (h : j < r.length) : muchN (r.take (j + 1)) = muchN (r.take j) + (1 + (r[j].s.size : Int)) := by
  unfold muchN; rw [take_next h, List.map_append, List.sum_append]; simp
theorem muchN_le {r : List Val} (hr : ∀ v, v ∈ r → v.s.size ≤ reachBytes) : muchN r ≤ (1 + reachBytes : Int) * r.length := by
  induction r with
  | nil => simp [muchN]
  | cons v r ih =>
    have h1 := ih fun v hv => hr v (List.mem_cons_of_mem _ hv)
    have h2 := hr v (List.mem_cons_self ..)
    simp only [muchN, List.map_cons, List.sum_cons, List.length_cons] at *
    rw [Int.natCast_add, Int.mul_add]
    omega
theorem muchN_mem {r : List Val} {v : Val} (h : v ∈ r) : 1 + (v.s.size : Int) ≤ muchN r := by
  induction r with
  | nil => cases h
  | cons w r ih =>
    have := muchN_pos r
    simp only [muchN, List.map_cons, List.sum_cons] at *
    rcases List.mem_cons.1 h with rfl | h
    · omega
    · have := ih h; omega
theorem muchL_no : ∀ {L : List (List Val)} {n : Int}, 0 ≤ n → muchL L n = false → ∀ r, r ∈ L → r.length ≤ 40 ∧ ∀ v, v ∈ r → v.s.size ≤ 2000
  | [], _, _, _, r, hr => by cases hr
  | q :: L, n, hn, h, r, hr => by
    unfold muchL at h
    split at h
    · cases h
    · split at h
      · cases h
      · have hq := muchN_pos q
        rcases List.mem_cons.1 hr with rfl | hr
        · refine ⟨by omega, fun v hv => ?_⟩
          have := muchN_mem hv
          omega
        · exact muchL_no (by omega) h r hr
theorem much_no {L : List (List Val)} (h : much L = false) : L.length ≤ 50 ∧ ∀ r, r ∈ L → r.length ≤ 40 ∧ ∀ v, v ∈ r → v.s.size ≤ 2000 := by
  unfold much at h
  simp at h
  refine ⟨h.2, fun r hr => muchL_no (Int.le_refl _) h.1 r ?_⟩
  rwa [List.take_of_length_le (by omega)]
theorem T_much (L : List (List Val)) (hL : L.length < 4611686018427387904) (hv : ∀ r, r ∈ L → ∀ v, v ∈ r → v.s.size ≤ reachBytes) : T Tryz.prog 46 [.sl .no (rows' L)] (.bool (much L)) := by
  have hrl := reach_lt
  refine T.intro (TS.body mix Tryz.func46 (by kernel_rfl) rfl (by kernel_rfl) (by simp) ?_)
  simp
  refine vc_loop (fun i : Nat => 60 - i) (fun i e H => ∃ n : Int, e 0 = .sl .no (rows' L) ∧ e 3 = .int .i64 n ∧ e 4 = .int .i64 i ∧ 0 ≤ n ∧ n ≤ 2000 ∧ i ≤ 60 ∧ i ≤ L.length ∧ much L = (muchL ((L.take 60).drop i) n || decide (50 < L.length))) 0 ?_ ?_
  · exact ⟨0, by simp [much]⟩
  rintro i e H ⟨n, h0, h3, h4, hn, hn2, hi, hi2, hm⟩
  by_cases hlt : i < L.length ∧ i < 60
  · have hlt' : i < (L.take 60).length := by rw [List.length_take]; omega
    have ed : (L.take 60).drop i = L[i] :: (L.take 60).drop (i + 1) := by rw [List.drop_eq_getElem_cons hlt', List.getElem_take]
    have hv' := hv L[i] (List.getElem_mem hlt.1)
    generalize hq : L[i] = q at *
    have h60 : ((i : Int) < 60) = True := eq_true (by omega)
    simp [h0, h3, h4, hlt.1, h60, hq]
    refine condK_of (fun h5 => ?_) (fun h5 => ?_)
    · simp at h5
      simp
      rw [hm, ed, muchL, if_pos (by omega)]; simp
    simp at h5
    have hqn := muchN_le hv'
    have hqb : (1 + (reachBytes : Int)) * q.length ≤ (1 + reachBytes) * 40 := Int.mul_le_mul_of_nonneg_left (by omega) (by omega)
    simp
    refine vc_loop (fun j : Nat => q.length - j) (fun j e H => e 0 = .sl .no (rows' L) ∧ e 3 = .int .i64 (n + muchN (q.take j)) ∧ e 4 = .int .i64 i ∧ e 5 = .int .i64 j ∧ j ≤ q.length) 0 ?_ ?_
    · simp [h0, h3, h4, muchN]
    clear h0 h3 h4 e
    rintro j e H ⟨h0, h3, h4, h5', hj⟩
    by_cases hjl : j < q.length
    · have en := muchN_next hjl
      have h1 := muchN_pos (q.take j)
      have h2 := muchN_le (r := q.take j) fun v hv => hv' v (List.mem_of_mem_take hv)
      have h3b : (1 + (reachBytes : Int)) * (q.take j).length ≤ (1 + reachBytes) * 40 := Int.mul_le_mul_of_nonneg_left (by rw [List.length_take]; omega) (by omega)
      have h6 := hv' q[j] (List.getElem_mem hjl)
      have w1 : IntKind.i64.wrap (n + muchN (q.take j) + 1) = n + muchN (q.take j) + 1 := wrap_i64 (by omega) (by omega)
      have w2 : IntKind.i64.wrap (n + muchN (q.take j) + 1 + q[j].s.size) = n + muchN (q.take (j + 1)) := by rw [wrap_i64 (by omega) (by omega)]; omega
      simp [h0, h3, h4, h5', hlt.1, hq, hjl, w1, w2]
      exact ⟨j + 1, by omega, rfl, wrap_next hjl (by omega), by omega⟩
    · have hje : j = q.length := by omega
      subst hje
      rw [List.take_length] at h3
      simp [h0, h3, h4, h5', hlt.1, hq]
      refine condK_of (fun h6 => ?_) (fun h6 => ?_)
      · simp at h6
        simp
        rw [hm, ed, muchL, if_neg (by omega), if_pos h6]; simp
      · simp at h6
        have hqp := muchN_pos q
        simp [h0, h3, h4, h5', hlt.1, hq]
        exact ⟨i + 1, by omega, wrap_next hlt.1 (by omega), by omega, h6, by omega, by omega, by rw [hm, ed, muchL, if_neg (by omega), if_neg (by omega)]⟩
  · have hc : (decide (i < L.length) && decide ((i : Int) < 60)) = false := by simp; omega
    have he : (L.take 60).drop i = [] := List.drop_of_length_le (by rw [List.length_take]; omega)
    simp [h0, h3, h4, hc]
    rw [hm, he]; simp [muchL]; try omega
/-- a list of values, as it comes in -/
def valIn (v : Val) : Prop := (-9223372036854775808 ≤ v.k ∧ v.k < 9223372036854775808) ∧ (-9223372036854775808 ≤ v.i ∧ v.i < 9223372036854775808) ∧ v.s.size ≤ reachBytes
theorem vals_in {cs : List AV} (h : Sh Tryz.prog 59 cs) : ∃ l : List Val, cs = [rowA l] ∧ (∀ v, v ∈ l → valIn v) ∧ l.length < 4611686018427387904 := by
  obtain ⟨ys, rfl, hy, b⟩ := h.sl_of un_59 ag_58
  obtain ⟨l, e, el, hl⟩ := list_in (f := Val.av) (g := mkAV true) (Q := valIn) (fun y hy' => by
    obtain ⟨v, e, _, h1, h2, h3⟩ := Val_in (hy y hy')
    exact ⟨v, e, h1, h2, h3⟩)
  have hb : 1 ≤ Tryz.prog.bytesOf 58 := by decide +kernel
  have hr := reach_lt
  have := Nat.mul_le_mul_left ys.length hb
  exact ⟨l, by rw [e]; rfl, hl, by omega⟩
end Go.Proofs.YtjplcdeaedflpaaGreatDoor.PL
namespace Go.Proofs.YtjplcdeaedflpaaGreatDoor.PL
open Go.Proofs
set_option linter.unusedVariables false
set_option linter.unusedSimpArgs false
/-! the order plays no part -/
theorem UfS.keep {H H' : List HO} {C R n : Nat} {ρ : Nat → Nat} (h : UfS H C R n ρ) (hC : H'[C]? = H[C]?) (hR : n ≠ 0 → H'[R]? = H[R]?) : UfS H' C R n ρ := by
  obtain ⟨up, hat, ok, hn, hr⟩ := h
  refine ⟨up, ?_, ok, hn, hr⟩
  rcases hat with ⟨h1, own, ho, h2⟩ | ⟨h1, h2, h3⟩
  · exact .inl ⟨h1, own, ho, by rw [hC]; exact h2⟩
  · have : n ≠ 0 := by rintro rfl; exact h1 (List.eq_nil_of_length_eq_zero hn)
    exact .inr ⟨h1, by rw [hC]; exact h2, by rw [hR this]; exact h3⟩
/-- two of them -/
def Two (C R : Nat) (n : Nat) (ρ : Nat → Nat) (H : List HO) : Prop := UfS H 0 1 n ρ ∧ UfS H C R n ρ
theorem Two.one {C R n : Nat} {ρ : Nat → Nat} {H H' : List HO} (h : Two C R n ρ H) (hC : n ≠ 0 → 1 < C) (hR : R = C + 1) (hs : UfStep H H' 0 1 n ρ) : Two C R n ρ H' :=
  ⟨hs.st, h.2.keep (hs.oth _ (by by_cases e : n = 0; exact .inr e; have := hC e; exact .inl (by omega))) fun e => hs.oth _ (.inl (by have := hC e; omega))⟩
theorem Two.two {C R n : Nat} {ρ : Nat → Nat} {H H' : List HO} (h : Two C R n ρ H) (hC : 0 < C) (hR : R = C + 1) (hs : UfStep H H' C R n ρ) : Two C R n ρ H' :=
  ⟨h.1.keep (hs.oth _ (.inl (by omega))) fun _ => hs.oth _ (.inl (by omega)), hs.st⟩
end Go.Proofs.YtjplcdeaedflpaaGreatDoor.PL
namespace Go.Proofs.YtjplcdeaedflpaaGreatDoor.PL
open Go.Proofs
set_option linter.unusedVariables false
set_option linter.unusedSimpArgs false
abbrev lists' (h : List (List Int)) : List AV := avs (slA (AV.int .i64)) h
/-- the classes stand, and the reference's list tells them -/
def UfRef (H : List HO) (C R n : Nat) (r : List Nat) : Prop := ∃ up, UfAt H C R up ∧ UfOk up ∧ up.length = n ∧ Same06 up r
theorem UfRef.new (H : List HO) (n : Nat) : UfRef (newH H n) H.length (H.length + 1) n (List.range n) := ⟨List.range n, new_at H n, range_ok n, by simp, same_new n⟩
theorem UfRef.len {H : List HO} {C R n : Nat} {r : List Nat} (h : UfRef H C R n r) : r.length = n := by
  obtain ⟨up, h1, h2, h3, h4⟩ := h
  rw [h4.1, h3]
end Go.Proofs.YtjplcdeaedflpaaGreatDoor.PL
namespace Go.Proofs.YtjplcdeaedflpaaGreatDoor.PL
open Go.Proofs
set_option linter.unusedVariables false
set_option linter.unusedSimpArgs false
theorem T_there (left : List Bool) (i : Nat) (hl : left.length < 4611686018427387904) : T Tryz.prog 138 [.sl .no (bools' left), .int .i64 i] (.bool (left.getD i false)) := by
  refine T.intro (TS.body mix Tryz.func138 (by kernel_rfl) rfl (by kernel_rfl) (by simp) ?_)
  by_cases h : i < left.length
  · simp [h]
  · have : left.length ≤ i := by omega
    simp [h, this]
/-- what the first n share with one, of those that are left -/
def outP (h : List (List Int)) (left : List Bool) (i : Nat) : Nat → List Int
  | 0 => []
  | k + 1 => outP h left i k ++ if k ≠ i ∧ left.getD k false = true then sharedI (h.getD i []) (h.getD k []) else []
theorem sharedI_len (a b : List Int) : (sharedI a b).length ≤ a.length := by
  unfold sharedI
  exact Nat.le_trans (List.length_filter_le _ _) (setI_len a)
theorem outP_len {h : List (List Int)} {left : List Bool} {i n : Nat} (hs : (h.getD i []).length ≤ n) : ∀ k, (outP h left i k).length ≤ k * n
  | 0 => by simp [outP]
  | k + 1 => by
    rw [outP, List.length_append, Nat.add_mul]
    have h1 := outP_len (left := left) hs k
    have h2 := sharedI_len (h.getD i []) (h.getD k [])
    split
    · omega
    · simp; omega
structure HsOk (h : List (List Int)) : Prop where
  n : h.length ≤ 1000
  s : ∀ l, l ∈ h → l.length ≤ 1000
theorem T_outside (h : List (List Int)) (left : List Bool) (i : Nat) (hh : HsOk h) (hi : i < h.length) (hl : left.length < 4611686018427387904) : T Tryz.prog 139 [.sl .no (lists' h), .sl .no (bools' left), .int .i64 i] (.sl .no (ints' (outP h left i h.length))) := by
  have hn := hh.n
  have hs := hh.s
  refine T.introF (TS.body mix Tryz.func139 (by kernel_rfl) rfl (by kernel_rfl) (by simp) ?_)
  simp
  refine vc_loop (fun k : Nat => h.length - k) (fun k e H => e 0 = .sl .no (lists' h) ∧ e 1 = .sl .no (bools' left) ∧ e 2 = .int .i64 i ∧ e 10 = .sl .no (lists' h) ∧ e 11 = .int .i64 h.length ∧ e 12 = .int .i64 k ∧ k ≤ h.length ∧ GrowM 1 H (e 7) (ints' (outP h left i k))) 0 ?_ ?_
  · simp [outP]
    exact GrowM.nil
  rintro k e H ⟨e0, e1, e2, e10, e11, e12, hk, hg⟩
  by_cases hlt : k < h.length
  · have ew := wrap_next hlt (by omega)
    have kt := T_there left k hl
    have ks := T_shared h[i] h[k] (by have := hs _ (List.getElem_mem hi); omega) (by have := hs _ (List.getElem_mem hlt); omega)
    have hol := outP_len (left := left) (i := i) (n := 1000) (h := h) (by have := hs _ (List.getElem_mem hi); simp [hi]; omega) k
    have hsl := sharedI_len h[i] h[k]
    have hil := hs _ (List.getElem_mem hi)
    have hnx : outP h left i (k + 1) = outP h left i k ++ if k ≠ i ∧ left.getD k false = true then sharedI h[i] h[k] else [] := by
      rw [outP]; simp [hi, hlt]
    simp [e0, e1, e2, e10, e11, e12, hlt]
    refine GTK.callW (fun _ => ⟨kt, Dws.self (by simp)⟩) ?_
    by_cases hc : k ≠ i ∧ left.getD k false = true
    · rw [if_pos hc] at hnx
      have hc1 : ¬ k = i := hc.1
      have hc2 : left[k]?.getD false = true := by simpa using hc.2
      have hc3 : ¬ (k : Int) = i := by omega
      simp [e0, e1, e2, e10, e11, e12, hlt, hc3, hc2, hi]
      refine TS.callW ks (Dws.self (by simp)) ?_
      rcases hg with ⟨ge, hg⟩ | ⟨t, hg, ht⟩
      · rw [avs_eq_nil] at ge
        have e7 : (e 7).ex = .sl .exact [] := by rcases hg with h | h <;> rw [h] <;> rfl
        simp [e0, e1, e2, e10, e11, e12, hlt, hc3, hc2, hi, e7]
        refine ⟨⟨by omega, by omega⟩, k + 1, by omega, ew, by omega, ?_⟩
        rw [hnx]
        exact GrowM.app0 ge rfl rfl
      · simp [e0, e1, e2, e10, e11, e12, hlt, hc3, hc2, hi, hg, ht]
        refine ⟨⟨by omega, by omega⟩, k + 1, by omega, ew, by omega, ?_⟩
        rw [hnx]
        exact GrowM.appT ht rfl
    · rw [if_neg hc, List.append_nil] at hnx
      have fin : GrowM 1 H (e 7) (ints' (outP h left i (k + 1))) := by rw [hnx]; exact hg
      by_cases hki : k = i
      · have hc3 : (k : Int) = i := by omega
        simp [e0, e1, e2, e10, e11, e12, hc3]
        rw [← hc3]
        exact ⟨k + 1, by omega, ew, by omega, fin⟩
      · have hc3 : ¬ (k : Int) = i := by omega
        have hc2 : left[k]?.getD false = false := by
          cases hq : left[k]?.getD false with
          | false => rfl
          | true => exact absurd ⟨hki, by simpa using hq⟩ hc
        simp [e0, e1, e2, e10, e11, e12, hc3, hc2]
        exact ⟨k + 1, by omega, ew, by omega, fin⟩
  · have : k = h.length := by omega
    subst this
    simp [e0, e1, e2, e10, e11, e12]
    exact hg.frz
def earQ (h : List (List Int)) (left : List Bool) (i p : Nat) : Bool := !decide (p = i) && (left.getD p false && withinI (outP h left i h.length) (h.getD p []))
def earF (h : List (List Int)) (left : List Bool) (i : Nat) : Option Nat := if left.getD i false = true then (List.range h.length).find? (earQ h left i) else none
/-- an ear: its parent -/
def earI (h : List (List Int)) (left : List Bool) (i : Int) : Option Nat := if 0 ≤ i ∧ i < h.length then earF h left i.toNat else none
theorem find_range {q : Nat → Bool} {n k : Nat} (hk : k < n) (hq : q k = true) (hno : ∀ j, j < k → q j = false) : (List.range n).find? q = some k := by
  rw [List.find?_range_eq_some]
  exact ⟨hq, by simpa using hk, fun j hj => by simp [hno j hj]⟩
theorem find_range_none {q : Nat → Bool} {n : Nat} (hno : ∀ j, j < n → q j = false) : (List.range n).find? q = none := by
  rw [List.find?_eq_none]
  intro x hx
  simp [hno x (by simpa using hx)]
theorem no_next {q : Nat → Bool} {k : Nat} (hno : ∀ j, j < k → q j = false) (h : q k = false) : ∀ j, j < k + 1 → q j = false := by
  intro j hj
  rcases Nat.lt_or_ge j k with h2 | h2
  · exact hno j h2
  · have : j = k := by omega
    subst this; exact h
theorem T_ear (h : List (List Int)) (left : List Bool) (i : Int) (hh : HsOk h) (hl : left.length < 4611686018427387904) : T Tryz.prog 127 [.sl .no (lists' h), .sl .no (bools' left), .int .i64 i] (.tup [.int .i64 ((earI h left i).getD 0 : Nat), .bool (earI h left i).isSome]) := by
  have hn := hh.n
  have hs := hh.s
  refine T.intro (TS.body mix Tryz.func127 (by kernel_rfl) rfl (by kernel_rfl) (by simp) ?_)
  by_cases c1 : i < 0
  · have : earI h left i = none := by unfold earI; rw [if_neg (by omega)]
    rw [this]
    simp [c1]
    refine GTK.callW (fun h => nomatch h) (ys := []) (r := .bool true) ?_
    simp
  by_cases c2 : (h.length : Int) ≤ i
  · have : earI h left i = none := by unfold earI; rw [if_neg (by omega)]
    rw [this]
    simp [c1, c2]
    refine GTK.callW (fun h => nomatch h) (ys := []) (r := .bool true) ?_
    simp
  obtain ⟨a, rfl⟩ : ∃ a : Nat, i = a := ⟨i.toNat, by omega⟩
  have ha : a < h.length := by omega
  have hna : ¬ h.length ≤ a := by omega
  have hn0 : ¬ (a : Int) < 0 := by omega
  have k1 := T_there left a hl
  have he : earI h left a = earF h left a := by unfold earI; rw [if_pos (by omega)]; rfl
  rw [he]
  cases hla : left.getD a false with
  | false =>
    rw [hla] at k1
    have : earF h left a = none := by unfold earF; rw [hla]; rfl
    rw [this]
    simp [hna, hn0]
    refine GTK.callW (fun _ => ⟨k1, Dws.self (by simp)⟩) ?_
    simp
  | true =>
    rw [hla] at k1
    have hef : earF h left a = (List.range h.length).find? (earQ h left a) := by unfold earF; rw [hla]; rfl
    rw [hef]
    have k2 := T_outside h left a hh ha hl
    have hol := outP_len (left := left) (i := a) (n := 1000) (h := h) (by have := hs _ (List.getElem_mem ha); simp [ha]; omega) h.length
    simp [hna, hn0]
    refine GTK.callW (fun _ => ⟨k1, Dws.self (by simp)⟩) ?_
    simp
    refine TS.callW k2 (Dws.self (by simp)) ?_
    obtain ⟨N, hN⟩ : ∃ N, N = outP h left a h.length := ⟨_, rfl⟩
    rw [← hN] at hol ⊢
    simp
    refine vc_loop (fun k : Nat => h.length - k) (fun k e H => e 1 = .sl .no (bools' left) ∧ e 2 = .int .i64 a ∧ e 8 = .sl .no (ints' N) ∧ e 29 = .sl .no (lists' h) ∧ e 30 = .int .i64 h.length ∧ e 31 = .int .i64 k ∧ k ≤ h.length ∧ ∀ j, j < k → earQ h left a j = false) 0 ?_ ?_
    · simp
    rintro k e H ⟨e1, e2, e8, e29, e30, e31, hk, hno⟩
    by_cases hlt : k < h.length
    · have ew := wrap_next hlt (by omega)
      have kt := T_there left k hl
      have kw := T_within N h[k] (by omega) (by have := hs _ (List.getElem_mem hlt); omega)
      have hq : earQ h left a k = (!decide (k = a) && (left.getD k false && withinI N h[k])) := by
        unfold earQ; rw [← hN]; simp [hlt]
      simp [e1, e2, e8, e29, e30, e31, hlt]
      refine GTK.callW (fun _ => ⟨kt, Dws.self (by simp)⟩) ?_
      by_cases c3 : k = a
      · have c4 : (k : Int) = a := by omega
        rw [decide_eq_true c3] at hq
        simp [e1, e2, e8, e29, e30, e31, hlt, c4]
        refine GTK.callW (fun h => nomatch h) (ys := []) (r := .bool true) ?_
        simp [e1, e2, e8, e29, e30, e31, hlt, c4]
        rw [← c4]
        exact ⟨k + 1, by omega, ew, by omega, no_next hno hq⟩
      have c4 : ¬ (k : Int) = a := by omega
      rw [decide_eq_false c3] at hq
      cases c5 : left.getD k false with
      | false =>
        have c6 : left[k]?.getD false = false := by simpa using c5
        rw [c5] at hq
        simp [e1, e2, e8, e29, e30, e31, hlt, c4, c6]
        refine GTK.callW (fun h => nomatch h) (ys := []) (r := .bool true) ?_
        simp [e1, e2, e8, e29, e30, e31, hlt, c4, c6]
        exact ⟨k + 1, by omega, ew, by omega, no_next hno hq⟩
      | true =>
        have c6 : left[k]?.getD false = true := by simpa using c5
        rw [c5] at hq
        simp [e1, e2, e8, e29, e30, e31, hlt, c4, c6]
        refine GTK.callW (fun _ => ⟨kw, Dws.self (by simp)⟩) ?_
        cases c7 : withinI N h[k] with
        | false =>
          rw [c7] at hq
          simp [e1, e2, e8, e29, e30, e31, hlt, c4, c6]
          exact ⟨k + 1, by omega, ew, by omega, no_next hno hq⟩
        | true =>
          rw [c7] at hq
          rw [find_range hlt hq hno]
          simp [e1, e2, e8, e29, e30, e31, hlt, c4, c6]
    · have : k = h.length := by omega
      subst this
      rw [find_range_none hno]
      simp [e1, e2, e8, e29, e30, e31]
end Go.Proofs.YtjplcdeaedflpaaGreatDoor.PL
