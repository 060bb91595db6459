/- Trees by their parents: another root, and JtreeTells. -/
import Derived.Test.YtahpoodcmeoabaaFJt6
namespace Go.Proofs.Ytahpoodcmeoabaa.PL
open Go.Proofs
set_option linter.unusedVariables false
set_option linter.unusedSimpArgs false
theorem S_climbM (ps : List Int) (k0 : Nat) (i : Int) (f : FuncId) (caps : List AV) (go : Int → Bool) (Inv : List Int → List HO → Prop) (hrow : ∀ A H, Inv A H → H[k0]? = some (.row ps.length 1 (ints' ps))) (H : List HO) (h0 : Inv [] H) (hl : ps.length ≤ 1000000)
    (hf : ∀ (A : List Int) (x : Nat) (H : List HO), x < ps.length → A.length < ps.length → Inv A H → TS Try.prog f (.int .i64 (x : Int) :: caps) H (fun r H' => r = .bool (go x) ∧ Inv (A ++ [(x : Int)]) H')) :
    TS Try.prog 90 [.mv k0 ps.length 1 0 ps.length, .int .i64 i, .fn (.func f) [] caps] H (fun r H' => r = .tup [] ∧ Inv (climbF ps go ps.length i) H') := by
  refine TS.body mix Try.func90 (by kernel_rfl) rfl (by kernel_rfl) (by simp) ?_
  simp
  refine vc_loop (fun n : Nat => ps.length - n) (fun n e H => ∃ (A : List Int) (c : Int), e 0 = .mv k0 ps.length 1 0 ps.length ∧ e 1 = .int .i64 c ∧ e 2 = .fn (.func f) [] caps ∧ e 7 = .int .i64 ps.length ∧ e 8 = .int .i64 n ∧ n ≤ ps.length ∧ A.length = n ∧ Inv A H ∧ climbF ps go ps.length i = A ++ climbF ps go (ps.length - n) c) 0 ?_ ?_
  · exact ⟨[], i, by simp, by simp, by simp, by simp, by simp, Nat.zero_le _, rfl, h0, by simp⟩
  rintro n e H ⟨A, c, e0, e1, e2, e7, e8, hn, hA, hI, hu⟩
  by_cases hlt : n < ps.length
  · have ew := wrap_next hlt (by omega)
    obtain ⟨m, hm⟩ : ∃ m, ps.length - n = m + 1 := ⟨ps.length - n - 1, by omega⟩
    have hm2 : ps.length - (n + 1) = m := by omega
    by_cases hc : 0 ≤ c ∧ c < ps.length
    · obtain ⟨k, rfl⟩ : ∃ k : Nat, c = k := ⟨c.toNat, by omega⟩
      have hk : k < ps.length := by omega
      have hk0 : ¬ (k : Int) < 0 := by omega
      have hk1 : ¬ ps.length ≤ k := by omega
      rw [hm, climbF, if_pos hc] at hu
      have hgk : ps.getD (k : Int).toNat 0 = ps[k] := by simp [hk]
      rw [hgk] at hu
      have kf := hf A k H hk (by omega) hI
      simp [e0, e1, e2, e7, e8, hlt, hk0, hk1]
      refine GTK.yes (kf.mono ?_)
      rintro _ H' ⟨rfl, hI'⟩
      cases hg : go (k : Int) with
      | true =>
        rw [hg, if_pos rfl] at hu
        have hr0 := hrow _ _ hI'
        simp [e0, e1, e2, e7, e8, hlt, hk, hr0]
        exact ⟨n + 1, by omega, ew, by omega, A ++ [(k : Int)], by simp [hA], hI', by rw [hu, hm2]; simp⟩
      | false =>
        rw [hg] at hu
        simp at hu
        simp [e0, e1, e2, e7, e8, hlt, hk]
        rw [hu]
        exact hI'
    · rw [hm, climbF, if_neg hc, List.append_nil] at hu
      rw [hu]
      by_cases h1 : c < 0
      · simp [e0, e1, e2, e7, e8, hlt, h1]
        refine GTK.no ?_
        simp [e0, e1, e2, e7, e8, hlt, h1]
        exact hI
      · have h2 : (ps.length : Int) ≤ c := by omega
        simp [e0, e1, e2, e7, e8, hlt, h1, h2]
        refine GTK.no ?_
        simp [e0, e1, e2, e7, e8, hlt, h1, h2]
        exact hI
  · have : n = ps.length := by omega
    rw [this, Nat.sub_self, climbF, List.append_nil] at hu
    rw [hu]
    simp [e0, e1, e2, e7, e8, hlt]
    exact hI
/-- a list grown behind b things and one -/
def GrowY (b sz : Nat) (J : List HO) (x : AV) (xs : List AV) : Prop := (xs = [] ∧ (x = .sl .nil [] ∨ x = .sl .exact [])) ∨ ∃ t, x = .sl (.tok (b + (t + 1))) xs ∧ J[t]? = some (.spare xs.length sz)
theorem behind_at {α : Type} (H J : List α) (o : α) (t : Nat) : (H ++ o :: J)[H.length + (t + 1)]? = J[t]? := by
  rw [List.getElem?_append_right (by omega), show H.length + (t + 1) - H.length = t + 1 by omega, List.getElem?_cons_succ]
theorem behind_set {α : Type} (H J : List α) (o z : α) (t : Nat) : (H ++ o :: J).set (H.length + (t + 1)) z = H ++ o :: J.set t z := by
  rw [List.set_append_right _ _ (by omega), show H.length + (t + 1) - H.length = t + 1 by omega, List.set_cons_succ]
/-- the way up in a row that may be written -/
theorem S_upM (H : List HO) (k0 : Nat) (ps : List Int) (i : Int) (hr : H[k0]? = some (.row ps.length 1 (ints' ps))) (hl : ps.length ≤ 1000000) : TS Try.prog 98 [.mv k0 ps.length 1 0 ps.length, .int .i64 i] H (pt (.sl .no (ints' (upI ps i))) H) := by
  have hk0 := (List.getElem?_eq_some_iff.1 hr).1
  have kc := S_climbM ps k0 i 152 [.ptr H.length 0] (fun _ => true) (fun A H' => ∃ x J, H' = H ++ .box [x] :: J ∧ GrowY H.length 1 J x (ints' A)) (fun A H' h => by
      obtain ⟨x, J, rfl, _⟩ := h
      exact getElem?_app hr) (H ++ [.box [.sl .exact []]]) ⟨_, [], rfl, .inl ⟨rfl, .inr rfl⟩⟩ hl (by
    rintro A x _ hx hA ⟨s, J, rfl, hg⟩
    refine TS.body mix Try.func152 (by kernel_rfl) rfl (by kernel_rfl) (by simp) ?_
    rcases hg with ⟨ge, hg⟩ | ⟨t, rfl, ht⟩
    · rw [avs_eq_nil] at ge
      subst ge
      have hex : s.ex = .sl .exact [] := by rcases hg with rfl | rfl <;> rfl
      rcases hg with rfl | rfl
      · simp
        exact ⟨_, _, ⟨rfl, rfl⟩, .inr ⟨J.length, rfl, by simp⟩⟩
      · simp
        exact ⟨_, _, ⟨rfl, rfl⟩, .inr ⟨J.length, rfl, by simp⟩⟩
    · simp [ht, behind_at, behind_set]
      refine ⟨⟨by omega, by omega⟩, _, _, ⟨rfl, rfl⟩, .inr ⟨t, rfl, ?_⟩⟩
      rw [List.getElem?_set_self (List.getElem?_eq_some_iff.1 ht).1]
      simp)
  rw [climb_all] at kc
  refine TS.dropE ?_
  refine TS.body mix Try.func98 (by kernel_rfl) rfl (by kernel_rfl) (by simp) ?_
  simp
  refine TS.mono kc ?_
  rintro _ _ ⟨rfl, s, J, rfl, hg⟩
  have hu : upF ps ps.length i = upI ps i := rfl
  rw [hu] at hg
  generalize upI ps i = U at *
  simp
  refine ⟨_, H, ⟨_, rfl⟩, Nat.le_refl _, fun _ h => .inl h, ?_, rfl, rfl⟩
  rcases hg with ⟨ge, hg⟩ | ⟨t, rfl, ht⟩
  · rw [avs_eq_nil] at ge
    subst ge
    rcases hg with rfl | rfl <;> exact Frz.slN (f := AV.int .i64) (l := [])
  · exact Frz.slN
/-- the way up from one is turned -/
def rerF (q l : List Int) : Nat → List Int
  | 0 => q
  | i + 1 => (rerF q l i).set (l.getD i 0).toNat (if i = 0 then -1 else l.getD (i - 1) 0)
def rerootI (q : List Int) (r : Int) : List Int := rerF q (upI q r) (upI q r).length
theorem rerF_len (q l : List Int) (i : Nat) : (rerF q l i).length = q.length := by
  induction i with
  | zero => rfl
  | succ i ih => rw [rerF, List.length_set, ih]
set_option maxRecDepth 4000 in
theorem T_rooted (ps : List Int) (r : Int) (hl : ps.length ≤ 1000000) : T Try.prog 30 [.sl .no (ints' ps), .int .i64 r] (.sl .no (ints' (rerootI (heldI ps) r))) := by
  have kh := T_held ps hl
  have hql := heldI_len ps
  have hrr : rerootI (heldI ps) r = rerF (heldI ps) (upI (heldI ps) r) (upI (heldI ps) r).length := rfl
  have hmem : ∀ x, x ∈ upI (heldI ps) r → 0 ≤ x ∧ x < (heldI ps).length := fun x hx => upF_mem hx
  have hul : (upI (heldI ps) r).length ≤ (heldI ps).length := upF_len _ _
  have hnil : heldI ps = [] → upI (heldI ps) r = [] := fun h => by rw [h]; rfl
  generalize rerootI (heldI ps) r = RR at *
  generalize heldI ps = q at *
  have ku := T_up q r (by omega)
  have ku2 := fun H hr => S_upM H 0 q r hr (by omega)
  generalize upI q r = l at *
  refine T.introF (TS.body mix Try.func30 (by kernel_rfl) rfl (by kernel_rfl) (by simp) ?_)
  simp
  refine TS.callW kh (Dws.self (by simp)) ?_
  simp
  refine TS.mono (S_cloneM _ q (by omega)) ?_
  rintro x H (⟨h1, rfl, rfl⟩ | ⟨h1, rfl, rfl⟩)
  · have hl0 := hnil h1
    subst h1
    subst hl0
    rw [hrr]
    simp
    refine TS.callW ku (by repeat (first | exact .self rfl | constructor)) ?_
    simp
    refine vc_loop (fun i : Nat => 0) (fun i e H => e 5 = .sl .exact [] ∧ e 16 = .int .i64 0 ∧ e 17 = .int .i64 0) 0 ?_ ?_
    · simp
    rintro i e H ⟨e5, e16, e17⟩
    simp [e5, e16, e17]
    exact Frz.slN (f := AV.int .i64) (l := [])
  · simp
    refine TS.pt (ku2 _ (by simp)) ?_
    simp
    refine vc_loop (fun i : Nat => l.length - i) (fun i e H => e 5 = .mv 0 q.length 1 0 q.length ∧ e 6 = .sl .no (ints' l) ∧ e 15 = .sl .no (ints' l) ∧ e 16 = .int .i64 l.length ∧ e 17 = .int .i64 i ∧ i ≤ l.length ∧ H = [.row q.length 1 (ints' (rerF q l i))]) 0 ?_ ?_
    · simp [rerF]
    rintro i e H ⟨e5, e6, e15, e16, e17, hi, rfl⟩
    by_cases hlt : i < l.length
    · have ew := wrap_next hlt (by omega)
      have hm := hmem _ (List.getElem_mem hlt)
      obtain ⟨k, hk⟩ : ∃ k : Nat, l[i] = k := ⟨(l[i]).toNat, by omega⟩
      have hkq : k < q.length := by omega
      have hrl := rerF_len q l i
      have hnx : rerF q l (i + 1) = (rerF q l i).set k (if i = 0 then -1 else l.getD (i - 1) 0) := by
        rw [rerF]
        congr 1
        simp [hlt, hk]
      have hset : ∀ v : Int, (rerF q l i).take k ++ v :: (rerF q l i).drop (k + 1) = (rerF q l i).set k v := fun v => setIQ (by omega)
      by_cases h0 : i = 0
      · subst h0
        simp only [Int.natCast_zero] at e17
        rw [if_pos rfl] at hnx
        simp [e5, e6, e15, e16, e17, hlt, hk, hkq, hrl]
        refine ⟨by omega, 1, by omega, by omega, by omega, ?_⟩
        rw [hnx, hset]
      · have hi0 : ¬ (i : Int) = 0 := by omega
        obtain ⟨j, rfl⟩ : ∃ j, i = j + 1 := ⟨i - 1, by omega⟩
        have hj : j < l.length := by omega
        have ej : IntKind.i64.wrap (((j + 1 : Nat) : Int) - 1) = (j : Int) := by rw [wrap_i64 (by omega) (by omega)]; omega
        rw [if_neg h0] at hnx
        have hgj : l.getD (j + 1 - 1) 0 = l[j] := by simp [hj]
        rw [hgj] at hnx
        have hi1 : ¬ (j : Int) + 1 = 0 := by omega
        have hlt2 : (j : Int) + 1 < l.length := by omega
        have hj1 : j + 1 < l.length := hlt
        have ej2 : IntKind.i64.wrap (j : Int) = (j : Int) := wrap_i64 (by omega) (by omega)
        have ew2 : IntKind.i64.wrap ((j : Int) + 1 + 1) = ((j + 1 + 1 : Nat) : Int) := by rw [wrap_i64 (by omega) (by omega)]; omega
        simp [e5, e6, e15, e16, e17, hlt2, hj1, hk, hkq, hrl, hi1, ej2, hj]
        refine ⟨by omega, by omega, j + 1 + 1, by omega, ew2, by omega, ?_⟩
        rw [hnx, hset]
    · have : i = l.length := by omega
      subst this
      rw [← hrr]
      simp [e5, e6, e15, e16, e17]
      exact Frz.mvA (f := AV.int .i64) (sz := 1) (l := RR) (by simp) (by rw [hrr, rerF_len])
def lvP : List Int := [-1, 0, 0, 1]
theorem lvP_path : pathQ (upI (heldI lvP) 3) (upI (heldI lvP) 2) = [3, 1, 0, 2] := by decide +kernel
theorem lvP_root : rerootI (heldI lvP) 3 = [1, 3, 0, -1] := by decide +kernel
set_option maxRecDepth 100000 in
theorem T_live23 : T Try.prog 15 [] (.bool true) := by
  have k1 := T_path lvP 3 2 (by decide)
  have k2 := T_rooted lvP 3 (by decide)
  rw [lvP_path] at k1
  rw [lvP_root] at k2
  have k3 := T_sameList21 [3, 1, 0, 2] [3, 1, 0, 2] (by decide)
  have k4 := T_sameList21 [1, 3, 0, -1] [1, 3, 0, -1] (by decide)
  simp only [lvP, avs_cons, avs_nil, slA] at k1 k2 k3 k4
  refine T.intro (TS.body mix Try.func15 (by kernel_rfl) rfl (by kernel_rfl) (by simp) ?_)
  simp
  refine TS.callW k1 (by repeat (first | exact .self rfl | constructor)) ?_
  simp
  refine TS.callW k3 (by repeat (first | exact .self rfl | constructor)) ?_
  simp
  refine GTK.callW (fun _ => ⟨k2, by repeat (first | exact .self rfl | constructor)⟩) ?_
  simp
  refine GTK.callW (fun _ => ⟨k4, by repeat (first | exact .self rfl | constructor)⟩) ?_
  simp
theorem T_JtreeTells (ps : List Int) (a b : Int) (hl0 : ps.length < 4611686018427387904) : T Try.prog 3 [.sl .no (ints' ps), .int .i64 a, .int .i64 b] (.bool true) := by
  refine T.intro (TS.body mix Try.func3 (by kernel_rfl) rfl (by kernel_rfl) (by simp) ?_)
  by_cases hl : (30 : Int) < ps.length
  · simp [hl]
    refine TS.callW T_live23 .nil ?_
    simp
  have hl2 : ps.length ≤ 30 := by omega
  have hql := heldI_len ps
  have k1 := T_jright ps (by omega)
  have k2 := T_rtree ps (by omega)
  have k3 := T_root ps (by omega)
  have k4 := T_rroot ps (by omega)
  have k5 := T_down ps (by omega)
  have k6 := T_rdown ps (by omega)
  have k7 := T_children ps a (by omega)
  have k8 := T_rchildren ps a (by omega)
  have k9 := T_jdepth ps a (by omega)
  have k10 := T_rdepth ps a (by omega)
  have k11 := T_path ps a b (by omega)
  have k12 := T_rpath23 ps a b (by omega)
  rw [path_same] at k11
  have hd : (downI (heldI ps)).length = (heldI ps).length := downI_len _
  have hc : (chI (heldI ps) a).length ≤ (heldI ps).length := by
    unfold chI
    split
    · exact chN_len _ _ _
    · simp
  have hp : (pathR (upI (heldI ps) a) (upI (heldI ps) b)).length ≤ 2 * (heldI ps).length + 1 := by
    have h1 : (upI (heldI ps) a).length ≤ (heldI ps).length := upF_len _ _
    have h2 : (upI (heldI ps) b).length ≤ (heldI ps).length := upF_len _ _
    unfold pathR
    split
    · simp
    · rw [List.length_append, List.length_append]
      have g1 := List.length_filter_le (fun v => !decide (v ∈ upI (heldI ps) b)) (upI (heldI ps) a)
      have g2 := List.length_filter_le (fun v => !decide (v ∈ upI (heldI ps) a)) (upI (heldI ps) b).reverse
      have g3 : ∀ o : Option Int, o.toList.length ≤ 1 := fun o => by cases o <;> simp
      have g4 := g3 ((upI (heldI ps) a).find? fun v => decide (v ∈ upI (heldI ps) b))
      rw [List.length_reverse] at g2
      omega
  have s5 := T_sameList21 (downI (heldI ps)) (downI (heldI ps)) (by omega)
  have s7 := T_sameList21 (chI (heldI ps) a) (chI (heldI ps) a) (by omega)
  have s11 := T_sameList21 (pathR (upI (heldI ps) a) (upI (heldI ps) b)) (pathR (upI (heldI ps) a) (upI (heldI ps) b)) (by omega)
  simp at s5 s7 s11
  generalize treeI ps = tr at *
  generalize rootI (heldI ps) = ro at *
  generalize downI (heldI ps) = dn at *
  generalize chI (heldI ps) a = ch at *
  generalize dpt (heldI ps) a = dp at *
  generalize pathR (upI (heldI ps) a) (upI (heldI ps) b) = pt at *
  simp [hl]
  refine TS.callW k1 (Dws.self (by simp)) ?_
  simp
  refine TS.callW k2 (Dws.self (by simp)) ?_
  simp
  refine GTK.callW (fun _ => ⟨k3, Dws.self (by simp)⟩) ?_
  simp
  refine GTK.callW (fun _ => ⟨k4, Dws.self (by simp)⟩) ?_
  simp
  refine GTK.callW (fun _ => ⟨k5, Dws.self (by simp)⟩) ?_
  simp
  refine GTK.callW (fun _ => ⟨k6, Dws.self (by simp)⟩) ?_
  simp
  refine GTK.callW (fun _ => ⟨s5, Dws.self (by simp)⟩) ?_
  simp
  refine TS.callW k7 (Dws.self (by simp)) ?_
  simp
  refine TS.callW k8 (Dws.self (by simp)) ?_
  simp
  refine TS.callW s7 (Dws.self (by simp)) ?_
  simp
  refine GTK.callW (fun _ => ⟨k9, Dws.self (by simp)⟩) ?_
  simp
  refine GTK.callW (fun _ => ⟨k10, Dws.self (by simp)⟩) ?_
  simp
  refine GTK.callW (fun _ => ⟨k11, Dws.self (by simp)⟩) ?_
  simp
  refine GTK.callW (fun _ => ⟨k12, Dws.self (by simp)⟩) ?_
  simp
  refine GTK.callW (fun _ => ⟨s11, Dws.self (by simp)⟩) ?_
  simp
  refine GTK.callW (fun _ => ⟨T_live23, .nil⟩) ?_
  simp
theorem S_JtreeTells {xs : List AV} (h : ShA Try.prog [22, 3, 3] xs) : T Try.prog 3 xs (.bool true) := by
  obtain ⟨y, r, rfl, h0, h⟩ := h.cons_of ag_22
  obtain ⟨y, r, rfl, h1, h⟩ := h.cons_of ag_3
  obtain ⟨y, r, rfl, h2, h⟩ := h.cons_of ag_3
  obtain rfl := h.nil_of
  obtain ⟨l, rfl, _, hl⟩ := ints_in h0
  obtain ⟨a, rfl, _⟩ := h1.int_of un_3
  obtain ⟨b, rfl, _⟩ := h2.int_of un_3
  exact T_JtreeTells l a b hl
end Go.Proofs.Ytahpoodcmeoabaa.PL
