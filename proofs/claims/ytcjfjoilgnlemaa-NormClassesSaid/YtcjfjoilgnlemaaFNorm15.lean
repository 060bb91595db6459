/- Conditions, by where they are asked: what stands in memory while they are put. -/
import Derived.Test.YtcjfjoilgnlemaaFNorm13
import Derived.Test.YtcjfjoilgnlemaaFGraph2
namespace Go.Proofs.Ytcjfjoilgnlemaa.PL
open Go.Proofs
set_option linter.unusedVariables false
set_option linter.unusedSimpArgs false
/-- a list in a row of its own -/
def MR {α : Type} (f : α → AV) (sz : Nat) (H : List HO) (x : AV) (l : List α) : Option Nat → Prop
  | none => l = [] ∧ x = .sl .exact []
  | some k => x = .mv k l.length sz 0 l.length ∧ H[k]? = some (.row l.length sz ((avs f l).flatMap AV.cells))
theorem MR.mono {α : Type} {f : α → AV} {sz : Nat} {H H' : List HO} {x : AV} {l : List α} {o : Option Nat} (h : MR f sz H x l o) (hf : ∀ k, o = some k → H[k]? = some (.row l.length sz ((avs f l).flatMap AV.cells)) → H'[k]? = H[k]?) : MR f sz H' x l o := by
  cases o with
  | none => exact h
  | some k => exact ⟨h.1, by rw [hf k rfl h.2]; exact h.2⟩
theorem MR.lt {α : Type} {f : α → AV} {sz : Nat} {H : List HO} {x : AV} {l : List α} {k : Nat} (h : MR f sz H x l (some k)) : k < H.length := (List.getElem?_eq_some_iff.1 h.2).1
/-- one place changed -/
def nup {α : Type} (x : Nat → α) (s : Nat) (a : α) (i : Nat) : α := if i = s then a else x i
theorem nup_self {α : Type} (x : Nat → α) (s : Nat) (a : α) : nup x s a s = a := by simp [nup]
theorem nup_ne {α : Type} (x : Nat → α) {s i : Nat} (a : α) (h : i ≠ s) : nup x s a i = x i := by simp [nup, h]
abbrev nrow (c : Nat) (x : Nat → AV) : List AV := (List.range c).map fun j => x (j + 2)
theorem nrow_len (c : Nat) (x : Nat → AV) : (nrow c x).length = c := by simp
theorem nrow_set {c : Nat} (x : Nat → AV) {s : Nat} (a : AV) (hs : s < c) : nrow c (nup x (s + 2) a) = (nrow c x).set s a := by
  apply List.ext_getElem?
  intro i
  by_cases hi : i = s
  · subst hi
    rw [List.getElem?_set_self (by simpa using hs)]
    simp [hs, nup]
  · rw [List.getElem?_set_ne (fun h => hi h.symm)]
    simp only [nrow, List.getElem?_map]
    by_cases h2 : i < c
    · simp [h2, nup, hi]
    · simp [h2]
theorem nrow_low {c : Nat} (x : Nat → AV) {s : Nat} (a : AV) (hs : s < 2) : nrow c (nup x s a) = nrow c x := by
  apply List.map_congr_left
  intro j _
  rw [nup_ne _ _ (by omega)]
structure ASt (b : Nat) (H : List HO) (N r c : Nat) (xl xe : AV) (E : List Edg) (oe : Option Nat) (x : Nat → AV) (L : Nat → List Ex') (P : Nat → Option Nat) : Prop where
  box : H[N]? = some (.box [.int .i64 c, .mv r c 1 0 c, xe, x 0, xl, x 1])
  row : H[r]? = some (.row c 1 (nrow c x))
  me : MR Edg.av 4 H xe E oe
  ms : ∀ i, MR Ex'.av 9 H (x i) (L i) (P i)
  inj : ∀ i j a, P i = some a → P j = some a → i = j
  low : b ≤ r ∧ (∀ a, oe = some a → b ≤ a) ∧ ∀ i a, P i = some a → b ≤ a
  lb : b ≤ H.length
namespace ASt
variable {b : Nat} {H : List HO} {N r c : Nat} {xl xe : AV} {E : List Edg} {oe : Option Nat} {x : Nat → AV} {L : Nat → List Ex'} {P : Nat → Option Nat}
theorem app (h : ASt b H N r c xl xe E oe x L P) (Y : List HO) : ASt b (H ++ Y) N r c xl xe E oe x L P where
  box := getElem?_app h.box
  row := getElem?_app h.row
  me := h.me.mono fun k _ hk => by rw [getElem?_app hk, hk]
  ms := fun i => (h.ms i).mono fun k _ hk => by rw [getElem?_app hk, hk]
  inj := h.inj
  low := h.low
  lb := by rw [List.length_append]; have := h.lb; omega
theorem Nr (h : ASt b H N r c xl xe E oe x L P) : N ≠ r := by
  rintro rfl
  have := h.box
  rw [h.row] at this
  cases this
/-- one condition more, in its list -/
theorem step (h : ASt b H N r c xl xe E oe x L P) (s : Nat) (e : Ex') (k' : Nat) {H' : List HO} (hN : H'[N]? = some (.box [.int .i64 c, .mv r c 1 0 c, xe, nup x s (.mv k' ((L s).length + 1) 9 0 ((L s).length + 1)) 0, xl, nup x s (.mv k' ((L s).length + 1) 9 0 ((L s).length + 1)) 1])) (hr : H'[r]? = some (.row c 1 (nrow c (nup x s (.mv k' ((L s).length + 1) 9 0 ((L s).length + 1)))))) (hk : H'[k']? = some (.row ((L s).length + 1) 9 ((exprs (L s ++ [e])).flatMap AV.cells))) (hkk : H.length ≤ k' ∨ P s = some k') (hfr : ∀ i, i < H.length → i ≠ N → i ≠ r → i ≠ k' → H'[i]? = H[i]?) (hl : H.length ≤ H'.length) : ASt b H' N r c xl xe E oe (nup x s (.mv k' ((L s).length + 1) 9 0 ((L s).length + 1))) (nup L s (L s ++ [e])) (nup P s (some k')) where
  box := hN
  row := hr
  me := h.me.mono fun k hk1 hk2 => by
    refine hfr k (List.getElem?_eq_some_iff.1 hk2).1 ?_ ?_ ?_
    · rintro rfl; have := h.box; rw [hk2] at this; cases this
    · rintro rfl; have := h.row; rw [hk2] at this; simp at this
    · rintro rfl
      rcases hkk with h1 | h1
      · have := (List.getElem?_eq_some_iff.1 hk2).1; omega
      · have h2 := h.ms s
        rw [h1] at h2
        have := h2.2
        rw [hk2] at this
        simp at this
  ms := fun i => by
    by_cases hi : i = s
    · subst hi
      simp only [nup_self]
      exact ⟨by simp, by rw [hk]; simp⟩
    · rw [nup_ne _ _ hi, nup_ne _ _ hi, nup_ne _ _ hi]
      refine (h.ms i).mono fun k hk1 hk2 => ?_
      refine hfr k (List.getElem?_eq_some_iff.1 hk2).1 ?_ ?_ ?_
      · rintro rfl; have := h.box; rw [hk2] at this; cases this
      · rintro rfl; have := h.row; rw [hk2] at this; simp at this
      · rintro rfl
        rcases hkk with h1 | h1
        · have := (List.getElem?_eq_some_iff.1 hk2).1; omega
        · exact hi (h.inj i s k hk1 h1)
  inj := fun i j a hi hj => by
    have new : ∀ i, i ≠ s → P i ≠ some k' := fun i hi hp => by
      rcases hkk with h1 | h1
      · have h2 := h.ms i
        rw [hp] at h2
        have := h2.lt
        omega
      · exact hi (h.inj i s k' hp h1)
    by_cases h1 : i = s <;> by_cases h2 : j = s
    · rw [h1, h2]
    · subst h1; rw [nup_self] at hi; rw [nup_ne _ _ h2] at hj; injection hi with hi; subst hi; exact absurd hj (new j h2)
    · subst h2; rw [nup_self] at hj; rw [nup_ne _ _ h1] at hi; injection hj with hj; subst hj; exact absurd hi (new i h1)
    · rw [nup_ne _ _ h1] at hi; rw [nup_ne _ _ h2] at hj; exact h.inj i j a hi hj
  low := ⟨h.low.1, h.low.2.1, fun i a hi => by
    by_cases h1 : i = s
    · subst h1
      rw [nup_self] at hi
      injection hi with hi
      subst hi
      rcases hkk with h2 | h2
      · have := h.lb; omega
      · exact h.low.2.2 i _ h2
    · rw [nup_ne _ _ h1] at hi; exact h.low.2.2 i a hi⟩
  lb := by have := h.lb; omega
/-- one edge more -/
theorem stepE (h : ASt b H N r c xl xe E oe x L P) (e : Edg) (k' : Nat) {H' : List HO} (hN : H'[N]? = some (.box [.int .i64 c, .mv r c 1 0 c, .mv k' (E.length + 1) 4 0 (E.length + 1), x 0, xl, x 1])) (hk : H'[k']? = some (.row (E.length + 1) 4 ((edgs (E ++ [e])).flatMap AV.cells))) (hkk : H.length ≤ k' ∨ oe = some k') (hfr : ∀ i, i < H.length → i ≠ N → i ≠ k' → H'[i]? = H[i]?) (hl : H.length ≤ H'.length) : ASt b H' N r c xl (.mv k' (E.length + 1) 4 0 (E.length + 1)) (E ++ [e]) (some k') x L P where
  box := hN
  row := by
    rw [hfr r (List.getElem?_eq_some_iff.1 h.row).1 h.Nr.symm ?_]
    · exact h.row
    · rintro rfl
      rcases hkk with h1 | h1
      · have := (List.getElem?_eq_some_iff.1 h.row).1; omega
      · have h2 := h.me
        rw [h1] at h2
        have := h2.2
        rw [h.row] at this
        simp at this
  me := ⟨by simp, by rw [hk]; simp⟩
  ms := fun i => (h.ms i).mono fun k hk1 hk2 => by
    refine hfr k (List.getElem?_eq_some_iff.1 hk2).1 ?_ ?_
    · rintro rfl; have := h.box; rw [hk2] at this; cases this
    · rintro rfl
      rcases hkk with h1 | h1
      · have := (List.getElem?_eq_some_iff.1 hk2).1; omega
      · have h2 := h.me
        rw [h1] at h2
        have := h2.2
        rw [hk2] at this
        simp at this
  inj := h.inj
  low := ⟨h.low.1, fun a ha => by
    injection ha with ha
    subst ha
    rcases hkk with h2 | h2
    · have := h.lb; omega
    · exact h.low.2.1 _ h2, h.low.2.2⟩
  lb := by have := h.lb; omega
end ASt
/-- what stays -/
def Sty (b N : Nat) (H H' : List HO) : Prop := (∀ i, i < b → i ≠ N → H'[i]? = H[i]?) ∧ H.length ≤ H'.length
/-- all of it, behind one more -/
def AP (b : Nat) (H : List HO) (N r c : Nat) (xl : AV) (E : List Edg) (L : Nat → List Ex') (H' : List HO) : Prop := ∃ xe oe x P, ASt b H' N r c xl xe E oe x L P ∧ Sty b N H H'
namespace ASt
variable {b : Nat} {H : List HO} {N r c : Nat} {xl xe : AV} {E : List Edg} {oe : Option Nat} {x : Nat → AV} {L : Nat → List Ex'} {P : Nat → Option Nat}
theorem fin (h : ASt b H N r c xl xe E oe x L P) (s : Nat) (e : Ex') (k' : Nat) {H' : List HO} (hN : H'[N]? = some (.box [.int .i64 c, .mv r c 1 0 c, xe, nup x s (.mv k' ((L s).length + 1) 9 0 ((L s).length + 1)) 0, xl, nup x s (.mv k' ((L s).length + 1) 9 0 ((L s).length + 1)) 1])) (hr : H'[r]? = some (.row c 1 (nrow c (nup x s (.mv k' ((L s).length + 1) 9 0 ((L s).length + 1)))))) (hk : H'[k']? = some (.row ((L s).length + 1) 9 ((exprs (L s ++ [e])).flatMap AV.cells))) (hkk : H.length ≤ k' ∨ P s = some k') (hfr : ∀ i, i < H.length → i ≠ N → i ≠ r → i ≠ k' → H'[i]? = H[i]?) (hl : H.length ≤ H'.length) : AP b H N r c xl E (nup L s (L s ++ [e])) H' := by
  refine ⟨_, _, _, _, h.step s e k' hN hr hk hkk hfr hl, fun i hi hn => hfr i (by have := h.lb; omega) hn ?_ ?_, hl⟩
  · have := h.low.1; omega
  · rcases hkk with h1 | h1
    · have := h.lb; omega
    · have := h.low.2.2 s k' h1; omega
theorem finE (h : ASt b H N r c xl xe E oe x L P) (e : Edg) (k' : Nat) {H' : List HO} (hN : H'[N]? = some (.box [.int .i64 c, .mv r c 1 0 c, .mv k' (E.length + 1) 4 0 (E.length + 1), x 0, xl, x 1])) (hk : H'[k']? = some (.row (E.length + 1) 4 ((edgs (E ++ [e])).flatMap AV.cells))) (hkk : H.length ≤ k' ∨ oe = some k') (hfr : ∀ i, i < H.length → i ≠ N → i ≠ k' → H'[i]? = H[i]?) (hl : H.length ≤ H'.length) : AP b H N r c xl (E ++ [e]) L H' := by
  refine ⟨_, _, _, _, h.stepE e k' hN hk hkk hfr hl, fun i hi hn => hfr i (by have := h.lb; omega) hn ?_, hl⟩
  rcases hkk with h1 | h1
  · have := h.lb; omega
  · have := h.low.2.1 k' h1; omega
theorem ne_r (h : ASt b H N r c xl xe E oe x L P) {s k' : Nat} (hkk : H.length ≤ k' ∨ P s = some k') : r ≠ k' := by
  rintro rfl
  rcases hkk with h1 | h1
  · have := (List.getElem?_eq_some_iff.1 h.row).1; omega
  · have h2 := h.ms s
    rw [h1] at h2
    have := h2.2
    rw [h.row] at this
    simp at this
theorem finR (h : ASt b H N r c xl xe E oe x L P) {H1 : List HO} (hl1 : H1.length = H.length + 2) (hf : ∀ i, i < H.length → H1[i]? = H[i]?) (e : Ex') (k' n : Nat) (hn : n = (L 0).length) {H' : List HO} (hfr : ∀ i, i < H1.length → i ≠ N → i ≠ k' → H'[i]? = H1[i]?) (hN : H'[N]? = some (.box [.int .i64 c, .mv r c 1 0 c, xe, .mv k' (n + 1) 9 0 (n + 1), xl, x 1])) (hk : H'[k']? = some (.row (n + 1) 9 ((exprs (L 0)).flatMap AV.cells ++ e.cs))) (hkk : H.length ≤ k' ∨ P 0 = some k') (hl : H1.length ≤ H'.length) : AP b H N r c xl E (nup L 0 (L 0 ++ [e])) H' := by
  subst hn
  have hrl := (List.getElem?_eq_some_iff.1 h.row).1
  refine h.fin 0 e k' ?_ ?_ ?_ hkk (fun i h1 h2 _ h3 => by rw [hfr i (by omega) h2 h3, hf i h1]) (by omega)
  · rw [hN]; simp [nup]
  · rw [hfr r (by omega) h.Nr.symm (h.ne_r hkk), hf r hrl, h.row, nrow_low _ _ (by omega)]
  · rw [hk]; simp [avs]
theorem finW (h : ASt b H N r c xl xe E oe x L P) {H1 : List HO} (hl1 : H1.length = H.length + 2) (hf : ∀ i, i < H.length → H1[i]? = H[i]?) (e : Ex') (k' n : Nat) (hn : n = (L 1).length) {H' : List HO} (hfr : ∀ i, i < H1.length → i ≠ N → i ≠ k' → H'[i]? = H1[i]?) (hN : H'[N]? = some (.box [.int .i64 c, .mv r c 1 0 c, xe, x 0, xl, .mv k' (n + 1) 9 0 (n + 1)])) (hk : H'[k']? = some (.row (n + 1) 9 ((exprs (L 1)).flatMap AV.cells ++ e.cs))) (hkk : H.length ≤ k' ∨ P 1 = some k') (hl : H1.length ≤ H'.length) : AP b H N r c xl E (nup L 1 (L 1 ++ [e])) H' := by
  subst hn
  have hrl := (List.getElem?_eq_some_iff.1 h.row).1
  refine h.fin 1 e k' ?_ ?_ ?_ hkk (fun i h1 h2 _ h3 => by rw [hfr i (by omega) h2 h3, hf i h1]) (by omega)
  · rw [hN]; simp [nup]
  · rw [hfr r (by omega) h.Nr.symm (h.ne_r hkk), hf r hrl, h.row, nrow_low _ _ (by omega)]
  · rw [hk]; simp [avs]
theorem finS (h : ASt b H N r c xl xe E oe x L P) {H1 : List HO} (hl1 : H1.length = H.length + 2) (hf : ∀ i, i < H.length → H1[i]? = H[i]?) (e : Ex') (u k' n : Nat) (hu : u < c) (hn : n = (L (u + 2)).length) {H' : List HO} (hfr : ∀ i, i < H1.length → i ≠ r → i ≠ k' → H'[i]? = H1[i]?) (hr : H'[r]? = some (.row c 1 ((nrow c x).set u (.mv k' (n + 1) 9 0 (n + 1))))) (hk : H'[k']? = some (.row (n + 1) 9 ((exprs (L (u + 2))).flatMap AV.cells ++ e.cs))) (hkk : H.length ≤ k' ∨ P (u + 2) = some k') (hl : H1.length ≤ H'.length) : AP b H N r c xl E (nup L (u + 2) (L (u + 2) ++ [e])) H' := by
  subst hn
  have hNl := (List.getElem?_eq_some_iff.1 h.box).1
  refine h.fin (u + 2) e k' ?_ ?_ ?_ hkk (fun i h1 _ h2 h3 => by rw [hfr i (by omega) h2 h3, hf i h1]) (by omega)
  · rw [hfr N (by omega) h.Nr ?_, hf N hNl, h.box]
    · simp [nup]
    · rintro rfl
      rcases hkk with h1 | h1
      · omega
      · have h2 := h.ms (u + 2)
        rw [h1] at h2
        have := h2.2
        rw [h.box] at this
        simp at this
  · rw [hr, nrow_set _ _ hu]
  · rw [hk]; simp [avs]
theorem finE' (h : ASt b H N r c xl xe E oe x L P) {H1 : List HO} (hl1 : H1.length = H.length + 2) (hf : ∀ i, i < H.length → H1[i]? = H[i]?) (e : Edg) (k' n : Nat) (hn : n = E.length) {H' : List HO} (hfr : ∀ i, i < H1.length → i ≠ N → i ≠ k' → H'[i]? = H1[i]?) (hN : H'[N]? = some (.box [.int .i64 c, .mv r c 1 0 c, .mv k' (n + 1) 4 0 (n + 1), x 0, xl, x 1])) (hk : H'[k']? = some (.row (n + 1) 4 ((edgs E).flatMap AV.cells ++ e.cs))) (hkk : H.length ≤ k' ∨ oe = some k') (hl : H1.length ≤ H'.length) : AP b H N r c xl (E ++ [e]) L H' := by
  subst hn
  refine h.finE e k' hN ?_ hkk (fun i h1 h2 h3 => by rw [hfr i (by omega) h2 h3, hf i h1]) (by omega)
  rw [hk]; simp [avs]
end ASt
theorem S_add1 {H : List HO} {k N : Nat} {c t : Int} {cs : List AV} (hk : H[k]? = some (.box [.ptr N 0])) (hN : H[N]? = some (.box (.int .i64 c :: cs))) : TS Try.prog 110 [.int .i64 t, .ptr k 0] H (pt (.bool (outI c t)) H) := by
  refine TS.body mix Try.func110 (by kernel_rfl) rfl (by kernel_rfl) (by simp) ?_
  simp [hk, hN]
  rfl
end Go.Proofs.Ytcjfjoilgnlemaa.PL
