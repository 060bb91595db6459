/- A logic of plain values for functions of the program: what it shows of a function's code holds of each run (part c). -/
import Derived.Test.YtjplcdeaedflpaaGreatDoorPLb
import Derived.Scope
import Derived.ScopeJumps
import GoSem.ClaimJoined
import Derived.WideShapes
import Derived.Carry
import Derived.ProofKit
set_option linter.unusedVariables false
set_option linter.unusedSimpArgs false
namespace Go.Proofs.YtjplcdeaedflpaaGreatDoor.PL
open Go.RowKit

section draw
variable (ops : Array Oper)

def dstOf (i : Nat) : Option Nat := (ops[i]?).bind (·.dst)
def opnTmps (o : Oper) : List Nat := o.op.operands.toList.filterMap fun | .tmp t => some t | _ => none
def grdTmp (o : Oper) : List Nat := match o.guard with | some (j, _) => (dstOf ops j).toList | none => []
def looksAt (i : Nat) : List Nat := match ops[i]? with | some o => opnTmps o ++ grdTmp ops o | none => []
def isWi (i : Nat) : Bool := match ops[i]? with | some o => isW o.op | none => false
def isRi (i : Nat) : Bool := match ops[i]? with | some o => isRd o.op | none => false
def edge (j i : Nat) : Bool := match ops[j]? with | some o => o.after.any fun e => e.on == i && Region.binds .any e | none => false
/-- Must i come ahead of j? -/
def depB : Nat → Nat → Nat → Bool
  | 0, _, _ => false
  | n + 1, j, i => match ops[j]? with | some o => o.after.toList.any fun e => Region.binds .any e && (e.on == i || depB n e.on i) | none => false
def conf (i j : Nat) : Bool :=
  (match dstOf ops i with | some d => (looksAt ops j).contains d || dstOf ops j == some d | none => false) ||
  (match dstOf ops j with | some d => (looksAt ops i).contains d | none => false) ||
  (isWi ops i && (isWi ops j || isRi ops j)) || (isWi ops j && isRi ops i)
def drawOk : Bool :=
  (List.range ops.size).all fun j => (match ops[j]? with | some o => o.after.all fun e => !Region.binds .any e || decide (e.on < j) | none => true) &&
    (List.range j).all fun i => !conf ops i j || depB ops ops.size j i
end draw

/-- The done ones are closed. -/
def Closed (ops : Array Oper) (D : Nat → Bool) : Prop := ∀ j o, ops[j]? = some o → D j = true → ∀ e, e ∈ o.after → Region.binds .any e = true → D e.on = true

theorem depB_closed {ops : Array Oper} {D : Nat → Bool} (hD : Closed ops D) : ∀ (n j i : Nat), depB ops n j i = true → D j = true → D i = true
  | 0, j, i, h, _ => by simp [depB] at h
  | n + 1, j, i, h, hj => by
    rw [depB] at h
    cases ho : ops[j]? with
    | none => rw [ho] at h; cases h
    | some o =>
      rw [ho] at h
      simp only [List.any_eq_true, Bool.and_eq_true, Bool.or_eq_true, beq_iff_eq] at h
      obtain ⟨e, he, hb, h⟩ := h
      have he := Array.mem_toList_iff.1 he
      have hd := hD j o ho hj e he hb
      rcases h with rfl | h
      · exact hd
      · exact depB_closed hD n e.on i h hd

theorem depB_ready {ops : Array Oper} {D : Nat → Bool} (hD : Closed ops D) {n j i : Nat} {o : Oper} (ho : ops[j]? = some o) (hr : ∀ e, e ∈ o.after → Region.binds .any e = true → D e.on = true) (h : depB ops n j i = true) : D i = true := by
  cases n with
  | zero => simp [depB] at h
  | succ n =>
    rw [depB, ho] at h
    simp only [List.any_eq_true, Bool.and_eq_true, Bool.or_eq_true, beq_iff_eq] at h
    obtain ⟨e, he, hb, h⟩ := h
    have he := Array.mem_toList_iff.1 he
    have hd := hr e he hb
    rcases h with rfl | h
    · exact hd
    · exact depB_closed hD n e.on i h hd

theorem drawOk_get {ops : Array Oper} (h : drawOk ops = true) {j : Nat} (hj : j < ops.size) :
    (∀ o, ops[j]? = some o → ∀ e, e ∈ o.after → Region.binds .any e = true → e.on < j) ∧ ∀ i, i < j → conf ops i j = true → depB ops ops.size j i = true := by
  unfold drawOk at h
  rw [List.all_eq_true] at h
  have h1 := h j (List.mem_range.2 hj)
  rw [Bool.and_eq_true] at h1
  constructor
  · intro o ho e he hb
    have h2 := h1.1
    rw [ho] at h2
    have h3 := (Array.all_eq_true_iff_forall_mem.1 h2) e he
    simpa [hb] using h3
  · intro i hi hc
    have h2 := List.all_eq_true.1 h1.2 i (List.mem_range.2 hi)
    simpa [hc] using h2

section chain
variable (ops : Array Oper) (e : Env) (X : Nat → AV) (Hs : Nat → List HO) (D : Nat → Bool)
def envI : Nat → Env
  | 0 => e
  | i + 1 => updo (envI i) (dstOf ops i) (X i)
def envD : Nat → Env
  | 0 => e
  | i + 1 => if D i = true then updo (envD i) (dstOf ops i) (X i) else envD i
def lastW : Nat → Nat
  | 0 => 0
  | i + 1 => if D i = true ∧ isWi ops i = true then i + 1 else lastW i
end chain

theorem updo_ne {e : Env} {d : Option Nat} {v : AV} {t : Nat} (h : d ≠ some t) : updo e d v t = e t := by
  cases d with
  | none => rfl
  | some d => simp only [updo, upd]; rw [if_neg]; rintro rfl; exact h rfl
theorem updo_eq {e : Env} {d : Option Nat} {v : AV} {t : Nat} (h : d = some t) : updo e d v t = v := by subst h; simp [updo, upd]

/-- Where just the writers of t ahead of j are done, t holds what it holds ahead of j. -/
theorem envD_at {ops : Array Oper} {e : Env} {X : Nat → AV} {D : Nat → Bool} {t j : Nat} (h : ∀ k, k ≠ j → dstOf ops k = some t → (k < j ↔ D k = true)) (hj : D j = false) :
    ∀ n, (n ≤ j → envD ops e X D n t = envI ops e X n t) ∧ (j ≤ n → envD ops e X D n t = envI ops e X j t) := by
  intro n
  induction n with
  | zero =>
    refine ⟨fun _ => rfl, fun h => ?_⟩
    obtain rfl : j = 0 := by omega
    rfl
  | succ n ih =>
    have step1 : n < j → envD ops e X D (n + 1) t = envI ops e X (n + 1) t := by
      intro hn
      have i1 := ih.1 (by omega)
      simp only [envD, envI]
      by_cases hd : dstOf ops n = some t
      · have := (h n (by omega) hd).1 hn
        rw [if_pos this, updo_eq hd, updo_eq hd]
      · rw [updo_ne hd]
        split
        · rw [updo_ne hd]; exact i1
        · exact i1
    refine ⟨fun hn => step1 (by omega), fun hn => ?_⟩
    rcases Nat.lt_or_ge n j with hlt | hge
    · have : j = n + 1 := by omega
      subst this
      exact step1 (by omega)
    · have i2 := ih.2 hge
      simp only [envD]
      split
      · rename_i hDn
        by_cases hd : dstOf ops n = some t
        · by_cases hnj : n = j
          · subst hnj; rw [hj] at hDn; cases hDn
          · have := (h n hnj hd).2 hDn; omega
        · rw [updo_ne hd]; exact i2
      · exact i2

theorem lastW_at {ops : Array Oper} {Hs : Nat → List HO} {D : Nat → Bool} {j : Nat} (hH : ∀ i, isWi ops i = false → Hs (i + 1) = Hs i) (h : ∀ k, k ≠ j → isWi ops k = true → (k < j ↔ D k = true)) (hj : D j = false) :
    ∀ n, (n ≤ j → Hs (lastW ops D n) = Hs n) ∧ (j ≤ n → Hs (lastW ops D n) = Hs j) := by
  intro n
  induction n with
  | zero =>
    refine ⟨fun _ => rfl, fun h => ?_⟩
    obtain rfl : j = 0 := by omega
    rfl
  | succ n ih =>
    have step1 : n < j → Hs (lastW ops D (n + 1)) = Hs (n + 1) := by
      intro hn
      have i1 := ih.1 (by omega)
      simp only [lastW]
      cases hw : isWi ops n with
      | true =>
        have := (h n (by omega) hw).1 hn
        rw [if_pos ⟨this, rfl⟩]
      | false =>
        rw [if_neg (by simp), hH n hw]; exact i1
    refine ⟨fun hn => step1 (by omega), fun hn => ?_⟩
    rcases Nat.lt_or_ge n j with hlt | hge
    · have : j = n + 1 := by omega
      subst this
      exact step1 (by omega)
    · have i2 := ih.2 hge
      simp only [lastW]
      split
      · rename_i hc
        by_cases hnj : n = j
        · subst hnj; rw [hj] at hc; cases hc.1
        · have := (h n hnj hc.2).2 hc.1; omega
      · exact i2

def addD (D : Nat → Bool) (j : Nat) : Nat → Bool := fun i => if i = j then true else D i

theorem addD_self (D : Nat → Bool) (j : Nat) : addD D j j = true := if_pos rfl
theorem addD_ne (D : Nat → Bool) {j n : Nat} (h : n ≠ j) : addD D j n = D n := if_neg h

theorem envD_add {ops : Array Oper} {e : Env} {X : Nat → AV} {D : Nat → Bool} {j : Nat} (hj : D j = false) {t : Nat} :
    (dstOf ops j ≠ some t → ∀ n, envD ops e X (addD D j) n t = envD ops e X D n t) ∧
    (dstOf ops j = some t → (∀ k, k ≠ j → dstOf ops k = some t → (k < j ↔ D k = true)) → ∀ n, j < n → envD ops e X (addD D j) n t = X j) := by
  constructor
  · intro hne n
    induction n with
    | zero => rfl
    | succ n ih =>
      simp only [envD]
      by_cases hn : n = j
      · subst hn
        rw [if_pos (addD_self D n), updo_ne hne, if_neg (by rw [hj]; simp)]
        exact ih
      · rw [addD_ne D hn]
        split
        · by_cases hd : dstOf ops n = some t
          · rw [updo_eq hd, updo_eq hd]
          · rw [updo_ne hd, updo_ne hd]; exact ih
        · exact ih
  · intro hd hk n
    induction n with
    | zero => intro h; omega
    | succ n ih =>
      intro hn
      simp only [envD]
      by_cases hnj : n = j
      · subst hnj
        rw [if_pos (addD_self D n), updo_eq hd]
      · rw [addD_ne D hnj]
        have i := ih (by omega)
        split
        · rename_i hDn
          by_cases hdn : dstOf ops n = some t
          · have := (hk n hnj hdn).2 hDn; omega
          · rw [updo_ne hdn]; exact i
        · exact i

theorem lastW_add {ops : Array Oper} {D : Nat → Bool} {j : Nat} (hj : D j = false) :
    (isWi ops j = false → ∀ n, lastW ops (addD D j) n = lastW ops D n) ∧
    (isWi ops j = true → (∀ k, k ≠ j → isWi ops k = true → (k < j ↔ D k = true)) → ∀ n, j < n → lastW ops (addD D j) n = j + 1) := by
  constructor
  · intro hw n
    induction n with
    | zero => rfl
    | succ n ih =>
      simp only [lastW]
      by_cases hn : n = j
      · subst hn
        rw [if_neg (by rw [hw]; simp), if_neg (by rw [hw]; simp)]
        exact ih
      · rw [addD_ne D hn]
        split
        · rfl
        · exact ih
  · intro hw hk n
    induction n with
    | zero => intro h; omega
    | succ n ih =>
      intro hn
      simp only [lastW]
      by_cases hnj : n = j
      · subst hnj
        rw [if_pos ⟨addD_self D n, hw⟩]
      · rw [addD_ne D hnj]
        split
        · rename_i hc
          have := (hk n hnj hc.2).2 hc.1; omega
        · exact ih (by omega)

/-! ### the chain out of the region's condition -/
theorem vcOps_chain {P : Program} {M : List Nat} {ops : Array Oper} {K : Env → List HO → Prop} : ∀ (n i : Nat) (e : Env) (H : List HO), i + n = ops.size → vcOps P M true ops (ops.toList.drop i) K e H →
    ∃ (X : Nat → AV) (Hs : Nat → List HO) (E : Nat → Env), E i = e ∧ Hs i = H ∧ K (E (i + n)) (Hs (i + n)) ∧ ∀ j, i ≤ j → j < i + n → E (j + 1) = updo (E j) (dstOf ops j) (X j) ∧ (isWi ops j = false → Hs (j + 1) = Hs j) ∧
      ∀ o, ops[j]? = some o → StepG P ops j o (E j) (Hs j) (X j) (Hs (j + 1)) ∧ (isRi ops j = false → isWi ops j = false → ∀ H2, StepG P ops j o (E j) H2 (X j) H2)
  | 0, i, e, H, hn, h => by
    rw [List.drop_of_length_le (by simp; omega)] at h
    exact ⟨fun _ => .any, fun _ => H, fun _ => e, rfl, rfl, h, fun j h1 h2 => by omega⟩
  | n + 1, i, e, H, hn, h => by
    have hlt : i < ops.toList.length := by simp; omega
    rw [List.drop_eq_getElem_cons hlt] at h
    simp only [vcOps] at h
    have hi : ops[i]? = some ops.toList[i] := by simp at hlt; simp [hlt]
    obtain ⟨r, H', h1, h2, h3, h4⟩ := vcG_step hi h
    obtain ⟨X, Hs, E, e1, e2, e3, e4⟩ := vcOps_chain n (i + 1) _ H' (by omega) h2
    refine ⟨fun j => if j = i then r else X j, fun j => if j = i then H else Hs j, fun j => if j = i then e else E j, if_pos rfl, if_pos rfl, ?_, ?_⟩
    · dsimp only
      rw [if_neg (by omega), if_neg (by omega), show i + (n + 1) = i + 1 + n by omega]
      exact e3
    · intro j hj1 hj2
      dsimp only
      by_cases hji : j = i
      · subst hji
        simp only [if_true]
        rw [if_neg (by omega), if_neg (by omega)]
        refine ⟨by rw [e1]; simp [dstOf, hi], fun hw => by rw [e2]; exact h3 (by simpa [isWi, hi] using hw), ?_⟩
        intro o ho
        rw [hi] at ho
        cases ho
        rw [e2]
        exact ⟨h1, fun a b => h4 (by simpa [isRi, hi] using a) (by simpa [isWi, hi] using b)⟩
      · simp only [if_neg hji, if_neg (show j + 1 ≠ i by omega)]
        exact e4 j (by omega) (by omega)

end Go.Proofs.YtjplcdeaedflpaaGreatDoor.PL

namespace Go.Proofs.YtjplcdeaedflpaaGreatDoor.PL
open Go.RowKit

def cnt (D : Nat → Bool) : Nat → Nat
  | 0 => 0
  | k + 1 => cnt D k + if D k = true then 0 else 1

theorem cnt_zero {D : Nat → Bool} : ∀ n, cnt D n = 0 → ∀ i, i < n → D i = true
  | 0, _, i, hi => by omega
  | n + 1, h, i, hi => by
    simp only [cnt] at h
    by_cases hd : D n = true
    · rw [if_pos hd] at h
      by_cases e : i = n
      · subst e; exact hd
      · exact cnt_zero n (by omega) i (by omega)
    · rw [if_neg hd] at h; omega

theorem cnt_add {D : Nat → Bool} {j : Nat} (hj : D j = false) : ∀ n, (n ≤ j → cnt (addD D j) n = cnt D n) ∧ (j < n → cnt (addD D j) n + 1 = cnt D n) := by
  intro n
  induction n with
  | zero => exact ⟨fun _ => rfl, fun h => by omega⟩
  | succ n ih =>
    refine ⟨fun hn => ?_, fun hn => ?_⟩
    · simp only [cnt]
      rw [addD_ne D (show n ≠ j by omega), ih.1 (by omega)]
    · simp only [cnt]
      by_cases e : n = j
      · subst e
        rw [if_pos (addD_self D n), if_neg (by rw [hj]; simp), ih.1 (Nat.le_refl _)]
      · rw [addD_ne D e]
        have := ih.2 (by omega)
        omega

theorem envD_all {ops : Array Oper} {e : Env} {X : Nat → AV} {D : Nat → Bool} : ∀ n, (∀ i, i < n → D i = true) → envD ops e X D n = envI ops e X n
  | 0, _ => rfl
  | n + 1, h => by
    simp only [envD, envI]
    rw [if_pos (h n (by omega)), envD_all n fun i hi => h i (by omega)]

theorem lastW_all {ops : Array Oper} {Hs : Nat → List HO} {D : Nat → Bool} : ∀ n, (∀ i, i < n → isWi ops i = false → Hs (i + 1) = Hs i) → (∀ i, i < n → D i = true) → Hs (lastW ops D n) = Hs n
  | 0, _, _ => rfl
  | n + 1, hH, h => by
    simp only [lastW]
    cases hw : isWi ops n with
    | true => rw [if_pos ⟨h n (by omega), rfl⟩]
    | false =>
      rw [if_neg (by simp), lastW_all n (fun i hi => hH i (by omega)) fun i hi => h i (by omega), hH n (by omega) hw]

theorem conf_look {ops : Array Oper} {k i t : Nat} (hd : dstOf ops k = some t) (ht : t ∈ looksAt ops i) : conf ops k i = true ∧ conf ops i k = true := by
  constructor
  · unfold conf
    simp [hd, ht]
  · unfold conf
    simp [hd, ht]
theorem conf_dst {ops : Array Oper} {k i t : Nat} (hd : dstOf ops k = some t) (ht : dstOf ops i = some t) : conf ops k i = true ∧ conf ops i k = true := by
  constructor <;> (unfold conf; simp [hd, ht])
theorem conf_heap {ops : Array Oper} {k i : Nat} (hd : isWi ops k = true) (ht : isWi ops i = true ∨ isRi ops i = true) : conf ops k i = true ∧ conf ops i k = true := by
  constructor <;> (unfold conf; rcases ht with ht | ht <;> simp [hd, ht])

theorem put_ne {a : Act} {d t : Nat} {v : Value} (h : d ≠ t) : (a.put (some d) v).tmps.getD t undef = a.tmps.getD t undef := by
  simp only [Act.put, Array.getD_eq_getD_getElem?, Array.getElem?_setIfInBounds]
  rw [if_neg h]

theorem draw_wp {P : Program} {M : List Nat} {N : Nat} {ops : Array Oper} {K : Env → List HO → Prop} {e : Env} {H : List HO} (hmix : P.follows .mixedOrders = true) (hd : drawOk ops = true)
    (h : vcOps P M true ops ops.toList K e H) {w0 : Bs} {Γ : Gh} {w : World} {a : Act} (hr : R w0 Γ H w) (he : RE N Γ e a) {Q : Exit → Act → World → Prop}
    (hops : ∀ o, o ∈ ops → operOk N ops o = true)
    (hQ : ∀ Γ' e' H' a' w', Gh.Le Γ Γ' → R w0 Γ' H' w' → RE N Γ' e' a' → K e' H' → Q .normal a' w') {id : Nat} : (Code.region id ops true).wp P Q a w := by
  obtain ⟨X, Hs, E, hE0, hH0, hK, hchain⟩ := vcOps_chain (P := P) (ops := ops) (K := K) ops.size 0 e H (by omega) (by simpa using h)
  simp only [Nat.zero_add] at hK hchain
  have hE : ∀ i, i ≤ ops.size → E i = envI ops e X i := by
    intro i
    induction i with
    | zero => intro _; exact hE0
    | succ i ih => intro hi; rw [(hchain i (by omega) (by omega)).1, ih (by omega)]; rfl
  have hHW : ∀ i, isWi ops i = false → Hs (if i < ops.size then i + 1 else i) = Hs i := by
    intro i hw
    split
    · rename_i hi; exact (hchain i (by omega) hi).2.1 hw
    · rfl
  -- past the end nothing changes
  let Hs' : Nat → List HO := fun i => Hs (min i ops.size)
  have hHs : ∀ i, i ≤ ops.size → Hs' i = Hs i := fun i hi => by show Hs (min i ops.size) = _; rw [Nat.min_eq_left hi]
  have hHW' : ∀ i, isWi ops i = false → Hs' (i + 1) = Hs' i := by
    intro i hw
    rcases Nat.lt_or_ge i ops.size with hi | hi
    · rw [hHs _ (by omega), hHs _ (by omega)]
      exact (hchain i (by omega) hi).2.1 hw
    · show Hs (min (i + 1) ops.size) = Hs (min i ops.size)
      rw [Nat.min_eq_right (by omega), Nat.min_eq_right (by omega)]
  have main : ∀ (fuel : Nat) (listed : Array Bool) (a : Act) (w : World) (Γ' : Gh), listed.size = ops.size → Closed ops (fun i => listed.getD i true) → Gh.Le Γ Γ' →
      R w0 Γ' (Hs' (lastW ops (fun i => listed.getD i true) ops.size)) w → RE N Γ' (envD ops e X (fun i => listed.getD i true) ops.size) a → cnt (fun i => listed.getD i true) ops.size ≤ fuel →
      wpAny P .any ops Q fuel listed a w := by
    intro fuel
    induction fuel with
    | zero =>
      intro listed a w Γ' hsz hcl hle hR hRE hc
      have hall := cnt_zero ops.size (by omega : cnt (fun i => listed.getD i true) ops.size = 0)
      refine ⟨?_, ?_⟩
      · unfold Region.ready
        rw [List.filter_eq_nil_iff]
        intro i hi
        have := hall i (List.mem_range.1 hi)
        simp [this]
      · refine hQ Γ' _ _ a w hle hR hRE ?_
        rw [envD_all _ hall, lastW_all _ (fun i _ hw => hHW' i hw) hall, ← hE _ (Nat.le_refl _), hHs _ (Nat.le_refl _)]
        exact hK
    | succ fuel ih =>
      intro listed a w Γ' hsz hcl hle hR hRE hc
      have listedD : ∀ k, k < ops.size → listed.getD k false = listed.getD k true := by
        intro k hk
        simp only [Array.getD_eq_getD_getElem?]
        rw [Array.getElem?_eq_getElem (by omega)]
        rfl
      refine ⟨?_, ?_⟩
      · intro hnil
        have hall : ∀ i, i < ops.size → listed.getD i true = true := by
          intro i
          induction i using Nat.strongRecOn with
          | _ i ihi =>
            intro hi
            cases hDi : listed.getD i true with
            | true => rfl
            | false =>
              exfalso
              have hmem : i ∈ Region.ready .any ops listed := by
                unfold Region.ready
                rw [List.mem_filter]
                refine ⟨List.mem_range.2 hi, ?_⟩
                rw [hDi]
                rw [Array.getElem?_eq_getElem hi]
                simp only [Option.map_some, Option.getD_some, Bool.not_false, Bool.true_and]
                rw [Array.all_eq_true_iff_forall_mem]
                intro ed hed
                cases hb : Region.binds .any ed with
                | false => rfl
                | true =>
                  have hlt := (drawOk_get hd hi).1 _ (Array.getElem?_eq_getElem hi) ed hed hb
                  rw [listedD _ (by omega), ihi ed.on hlt (by omega)]
                  rfl
              rw [hnil] at hmem
              cases hmem
        refine hQ Γ' _ _ a w hle hR hRE ?_
        rw [envD_all _ hall, lastW_all _ (fun i _ hw => hHW' i hw) hall, ← hE _ (Nat.le_refl _), hHs _ (Nat.le_refl _)]
        exact hK
      · intro i hi
        unfold Region.ready at hi
        rw [List.mem_filter] at hi
        obtain ⟨hi, hcond⟩ := hi
        have hi := List.mem_range.1 hi
        have hoi := Array.getElem?_eq_getElem hi
        generalize hog : ops[i] = o at hoi
        rw [hoi] at hcond
        simp only [Option.map_some, Option.getD_some, Bool.and_eq_true, Bool.not_eq_true'] at hcond
        obtain ⟨hDi, hafter⟩ := hcond
        have hready : ∀ ed, ed ∈ o.after → Region.binds .any ed = true → listed.getD ed.on true = true := by
          intro ed hed hb
          have h1 := (Array.all_eq_true_iff_forall_mem.1 hafter) ed hed
          rw [hb] at h1
          simp only [Bool.not_true, Bool.false_or] at h1
          have hlt := (drawOk_get hd hi).1 o hoi ed hed hb
          rwa [listedD _ (by omega)] at h1
        have ord : ∀ k, k ≠ i → (conf ops k i = true ∧ conf ops i k = true) → k < ops.size → (k < i ↔ listed.getD k true = true) := by
          intro k hki ⟨c1, c2⟩ hk
          constructor
          · intro hlt
            exact depB_ready hcl hoi hready ((drawOk_get hd hi).2 k hlt c1)
          · intro hDk
            rcases Nat.lt_or_ge k i with h | h
            · exact h
            · have hdep := (drawOk_get hd hk).2 i (by omega) c2
              have := depB_closed hcl _ k i hdep hDk
              rw [hDi] at this; cases this
        have dlt : ∀ {k t}, dstOf ops k = some t → k < ops.size := by
          intro k t hkt
          rcases Nat.lt_or_ge k ops.size with h | h
          · exact h
          · simp [dstOf, Array.getElem?_eq_none h] at hkt
        have wlt : ∀ {k}, isWi ops k = true → k < ops.size := by
          intro k hkt
          rcases Nat.lt_or_ge k ops.size with h | h
          · exact h
          · simp [isWi, Array.getElem?_eq_none h] at hkt
        obtain ⟨_, _, hstep⟩ := hchain i (by omega) hi
        obtain ⟨hst, hneu⟩ := hstep o hoi
        have hok := hops o (by rw [← hog]; exact Array.getElem_mem hi)
        have envAt : ∀ t, t ∈ looksAt ops i → envD ops e X (fun i => listed.getD i true) ops.size t = E i t := by
          intro t ht
          rw [hE i (by omega)]
          exact (envD_at (fun k hk hdk => ord k hk (conf_look hdk ht) (dlt hdk)) hDi ops.size).2 (by omega)
        have hlook : Looks ops o Γ' (E i) a := by
          have hl := hRE.looks hok
          have la : looksAt ops i = opnTmps o ++ grdTmp ops o := by unfold looksAt; rw [hoi]
          refine ⟨fun x hx => ?_, fun j want t hg ht => ?_⟩
          · have := hl.opn x hx
            cases x with
            | tmp t =>
              have hm : t ∈ looksAt ops i := by
                rw [la, List.mem_append]
                left
                unfold opnTmps
                rw [List.mem_filterMap]
                exact ⟨.tmp t, by simpa using hx, rfl⟩
              simp only [evA] at this ⊢
              rw [← envAt t hm]
              exact this
            | const v => exact VR.ofConst _ v
            | global g => exact .any _
            | func f => exact .fn .nil .nil
          · obtain ⟨h1, h2⟩ := hl.grd j want t hg ht
            have hm : t ∈ looksAt ops i := by
              rw [la, List.mem_append]
              right
              unfold grdTmp
              rw [hg]
              simp [dstOf, ht]
            rw [← envAt t hm]
            exact ⟨h1, h2⟩
        have fin : ∀ (Hn : List HO) (hHn : Hn = Hs' (lastW ops (addD (fun i => listed.getD i true) i) ops.size)) Γ'' v w', Gh.Le Γ' Γ'' → VR Γ'' (X i) v → R w0 Γ'' Hn w' →
            wpAny P .any ops Q fuel (listed.setIfInBounds i true) (a.put o.dst v) w' := by
          intro Hn hHn Γ'' v w' g1 g2 g3
          have hD' : (fun k => (listed.setIfInBounds i true).getD k true) = addD (fun i => listed.getD i true) i := by
            funext k
            simp only [addD, Array.getD_eq_getD_getElem?, Array.getElem?_setIfInBounds]
            by_cases hk : k = i
            · subst hk
              rw [if_pos rfl, if_pos rfl, if_pos (by omega)]
              rfl
            · rw [if_neg (fun x => hk x.symm), if_neg hk]
          refine ih _ _ _ Γ'' (by simpa using hsz) ?_ (hle.trans g1) ?_ ?_ ?_
          · rw [hD']
            intro j oj hoj hDj ed hed hb
            by_cases hej : ed.on = i
            · rw [hej]; exact addD_self _ i
            · rw [addD_ne _ hej]
              by_cases hji : j = i
              · subst hji
                rw [hoi] at hoj
                cases hoj
                exact hready ed hed hb
              · rw [addD_ne _ hji] at hDj
                exact hcl j oj hoj hDj ed hed hb
          · rw [hD', ← hHn]; exact g3
          · rw [hD']
            have hdst : dstOf ops i = o.dst := by simp [dstOf, hoi]
            refine ⟨?_, ?_, fun t ht => ?_⟩
            · cases o.dst <;> simp [Act.put, hRE.size]
            · cases o.dst <;> simp [Act.put, hRE.defers]
            · by_cases hdt : dstOf ops i = some t
              · rw [(envD_add hDi).2 hdt (fun k hk hdk => ord k hk (conf_dst hdk hdt) (dlt hdk)) ops.size hi]
                rw [hdst] at hdt
                rw [hdt]
                simp only [Act.put, Array.getD_eq_getD_getElem?, Array.getElem?_setIfInBounds]
                rw [if_pos trivial, if_pos (by rw [hRE.size]; exact ht)]
                exact g2
              · rw [(envD_add hDi).1 hdt ops.size]
                have hv := (hRE.val t ht).mono g1
                rw [hdst] at hdt
                cases hod : o.dst with
                | none => exact hv
                | some d =>
                  have hne : d ≠ t := by rintro rfl; exact hdt hod
                  rw [put_ne hne]
                  exact hv
          · rw [hD']
            have := (cnt_add (D := fun i => listed.getD i true) hDi ops.size).2 hi
            omega
        cases hwi : isWi ops i with
        | true =>
          have hcur : Hs' (lastW ops (fun i => listed.getD i true) ops.size) = Hs i := by
            rw [(lastW_at hHW' (fun k hk hwk => ord k hk (conf_heap hwk (.inl hwi)) (wlt hwk)) hDi ops.size).2 (by omega), hHs _ (by omega)]
          rw [hcur] at hR
          refine hst w0 Γ' w a _ Q hR hlook fun Γ'' v w' g1 g2 g3 => fin _ ?_ Γ'' v w' g1 g2 g3
          rw [(lastW_add hDi).2 hwi (fun k hk hwk => ord k hk (conf_heap hwk (.inl hwi)) (wlt hwk)) ops.size hi, hHs _ (by omega)]
        | false =>
          have hsame : Hs' (lastW ops (addD (fun i => listed.getD i true) i) ops.size) = Hs' (lastW ops (fun i => listed.getD i true) ops.size) := by rw [(lastW_add hDi).1 hwi]
          cases hri : isRi ops i with
          | true =>
            have hcur : Hs' (lastW ops (fun i => listed.getD i true) ops.size) = Hs i := by
              rw [(lastW_at hHW' (fun k hk hwk => ord k hk (conf_heap hwk (.inr hri)) (wlt hwk)) hDi ops.size).2 (by omega), hHs _ (by omega)]
            rw [hcur] at hR hsame
            refine hst w0 Γ' w a _ Q hR hlook fun Γ'' v w' g1 g2 g3 => fin _ ?_ Γ'' v w' g1 g2 g3
            rw [hsame]
            exact (hchain i (by omega) hi).2.1 hwi
          | false =>
            exact hneu hri hwi _ w0 Γ' w a _ Q hR hlook fun Γ'' v w' g1 g2 g3 => fin _ hsame.symm Γ'' v w' g1 g2 g3
  refine wp_region_any hmix ?_
  have hrep : (fun i => (Array.replicate ops.size false).getD i true) = fun i => decide (ops.size ≤ i) := by
    funext i
    simp only [Array.getD_eq_getD_getElem?]
    rcases Nat.lt_or_ge i ops.size with hi | hi
    · rw [Array.getElem?_eq_getElem (by simpa using hi)]; simp; omega
    · rw [Array.getElem?_eq_none (by simpa using hi)]; simp [hi]
  have hD0 : ∀ i, i < ops.size → (Array.replicate ops.size false).getD i true = false := fun i hi => by
    have := congrFun hrep i
    rw [this]; simp; exact hi
  refine main _ _ a _ Γ (by simp) ?_ (Gh.Le.refl Γ) ?_ ?_ ?_
  · intro j o ho hDj
    rw [hrep] at hDj
    have := (Array.getElem?_eq_some_iff.1 ho).1
    simp at hDj
    omega
  · have : lastW ops (fun i => (Array.replicate ops.size false).getD i true) ops.size = 0 := by
      have gen : ∀ n, n ≤ ops.size → lastW ops (fun i => (Array.replicate ops.size false).getD i true) n = 0 := by
        intro n
        induction n with
        | zero => intro _; rfl
        | succ n ih =>
          intro hn
          simp only [lastW]
          rw [if_neg (by rw [hD0 n (by omega)]; simp)]
          exact ih (by omega)
      exact gen _ (Nat.le_refl _)
    rw [this, hHs _ (by omega), hH0]
    exact hr.drew ⟨rfl, rfl, rfl, Nat.le_refl _, fun _ _ => rfl⟩
  · have : envD ops e X (fun i => (Array.replicate ops.size false).getD i true) ops.size = e := by
      have gen : ∀ n, n ≤ ops.size → envD ops e X (fun i => (Array.replicate ops.size false).getD i true) n = e := by
        intro n
        induction n with
        | zero => intro _; rfl
        | succ n ih =>
          intro hn
          simp only [envD]
          rw [if_neg (by rw [hD0 n (by omega)]; simp)]
          exact ih (by omega)
      exact gen _ (Nat.le_refl _)
    rw [this]
    exact he
  · have gen : ∀ n, cnt (fun i => (Array.replicate ops.size false).getD i true) n ≤ n := by
      intro n
      induction n with
      | zero => exact Nat.le_refl _
      | succ n ih => simp only [cnt]; split <;> omega
    exact gen _

end Go.Proofs.YtjplcdeaedflpaaGreatDoor.PL

namespace Go.Proofs.YtjplcdeaedflpaaGreatDoor.PL
open Go.RowKit

/-! ### a region whose loads may come on either side of a store elsewhere -/
def isLd : Op → Bool
  | .load .. => true
  | .lookup .. => true
  | _ => false
def isLi (ops : Array Oper) (i : Nat) : Bool := match ops[i]? with | some o => isLd o.op | none => false
def isXi (ops : Array Oper) (i : Nat) : Bool := match ops[i]? with | some o => xR o.op && !isLd o.op | none => false
/-- is this operation a call that changes memory: said ahead -/
def mkW (M : List Nat) (id i : Nat) : Bool := M.contains (2000000 + id * 100 + i)
def wM (M : List Nat) (id : Nat) (ops : Array Oper) (i : Nat) : Bool := match ops[i]? with | some o => isW o.op || mkW M id i | none => false
def lastP (W D : Nat → Bool) : Nat → Nat
  | 0 => 0
  | i + 1 => if D i = true ∧ W i = true then i + 1 else lastP W D i
theorem lastP_at {W : Nat → Bool} {Hs : Nat → List HO} {D : Nat → Bool} {j : Nat} (hH : ∀ i, W i = false → Hs (i + 1) = Hs i) (h : ∀ k, k ≠ j → W k = true → (k < j ↔ D k = true)) (hj : D j = false) :
    ∀ n, (n ≤ j → Hs (lastP W D n) = Hs n) ∧ (j ≤ n → Hs (lastP W D n) = Hs j) := by
  intro n
  induction n with
  | zero =>
    refine ⟨fun _ => rfl, fun h => ?_⟩
    obtain rfl : j = 0 := by omega
    rfl
  | succ n ih =>
    have step1 : n < j → Hs (lastP W D (n + 1)) = Hs (n + 1) := by
      intro hn
      have i1 := ih.1 (by omega)
      simp only [lastP]
      cases hw : W n with
      | true =>
        have := (h n (by omega) hw).1 hn
        rw [if_pos ⟨this, rfl⟩]
      | false =>
        rw [if_neg (by simp), hH n hw]; exact i1
    refine ⟨fun hn => step1 (by omega), fun hn => ?_⟩
    rcases Nat.lt_or_ge n j with hlt | hge
    · have : j = n + 1 := by omega
      subst this
      exact step1 (by omega)
    · have i2 := ih.2 hge
      simp only [lastP]
      split
      · rename_i hc
        by_cases hnj : n = j
        · subst hnj; rw [hj] at hc; cases hc.1
        · have := (h n hnj hc.2).2 hc.1; omega
      · exact i2

theorem lastP_add {W : Nat → Bool} {D : Nat → Bool} {j : Nat} (hj : D j = false) :
    (W j = false → ∀ n, lastP W (addD D j) n = lastP W D n) ∧
    (W j = true → (∀ k, k ≠ j → W k = true → (k < j ↔ D k = true)) → ∀ n, j < n → lastP W (addD D j) n = j + 1) := by
  constructor
  · intro hw n
    induction n with
    | zero => rfl
    | succ n ih =>
      simp only [lastP]
      by_cases hn : n = j
      · subst hn
        rw [if_neg (by rw [hw]; simp), if_neg (by rw [hw]; simp)]
        exact ih
      · rw [addD_ne D hn]
        split
        · rfl
        · exact ih
  · intro hw hk n
    induction n with
    | zero => intro h; omega
    | succ n ih =>
      intro hn
      simp only [lastP]
      by_cases hnj : n = j
      · subst hnj
        rw [if_pos ⟨addD_self D n, hw⟩]
      · rw [addD_ne D hnj]
        split
        · rename_i hc
          have := (hk n hnj hc.2).2 hc.1; omega
        · exact ih (by omega)

theorem lastP_all {W : Nat → Bool} {Hs : Nat → List HO} {D : Nat → Bool} : ∀ n, (∀ i, i < n → W i = false → Hs (i + 1) = Hs i) → (∀ i, i < n → D i = true) → Hs (lastP W D n) = Hs n
  | 0, _, _ => rfl
  | n + 1, hH, h => by
    simp only [lastP]
    cases hw : W n with
    | true => rw [if_pos ⟨h n (by omega), rfl⟩]
    | false =>
      rw [if_neg (by simp), lastP_all n (fun i hi => hH i (by omega)) fun i hi => h i (by omega), hH n (by omega) hw]

theorem lastP_lt {W : Nat → Bool} {D : Nat → Bool} : ∀ n, ∀ k, lastP W D n ≤ k → k < n → W k = true → D k = false
  | 0, k, _, h, _ => by omega
  | n + 1, k, h1, h2, h3 => by
    simp only [lastP] at h1
    split at h1
    · omega
    · rename_i hc
      by_cases hk : k = n
      · subst hk
        cases hD : D k with
        | false => rfl
        | true => exact absurd (by simp [hD, h3]) hc
      · exact lastP_lt n k h1 (by omega) h3
theorem lastP_top {W : Nat → Bool} {D : Nat → Bool} : ∀ n, lastP W D n ≠ 0 → W (lastP W D n - 1) = true ∧ D (lastP W D n - 1) = true
  | 0, h => absurd rfl h
  | n + 1, h => by
    simp only [lastP] at h ⊢
    split
    · rename_i hc
      exact ⟨hc.2, hc.1⟩
    · rename_i hc
      rw [if_neg hc] at h
      exact lastP_top n h
theorem lastP_le {W : Nat → Bool} {D : Nat → Bool} : ∀ n, lastP W D n ≤ n
  | 0 => Nat.le_refl _
  | n + 1 => by
    simp only [lastP]
    split
    · exact Nat.le_refl _
    · exact Nat.le_succ_of_le (lastP_le n)


def confL (M : List Nat) (id : Nat) (ops : Array Oper) (i j : Nat) : Bool :=
  (match dstOf ops i with | some d => (looksAt ops j).contains d || dstOf ops j == some d | none => false) ||
  (match dstOf ops j with | some d => (looksAt ops i).contains d | none => false) ||
  (wM M id ops i && (wM M id ops j || isXi ops j)) || (wM M id ops j && isXi ops i)
/-- does the later of the two hang on the earlier: said ahead, tried by the kernel -/
def depM (M : List Nat) (id k j : Nat) : Bool := M.contains (1000000 + id * 10000 + k * 100 + j)
def drawOkM (M : List Nat) (id : Nat) (ops : Array Oper) : Bool :=
  (List.range ops.size).all fun k => (List.range ops.size).all fun j => !depM M id k j || depB ops ops.size k j
theorem drawOkM_get {M : List Nat} {id : Nat} {ops : Array Oper} (h : drawOkM M id ops = true) {k j : Nat} (hk : k < ops.size) (hj : j < ops.size) (hd : depM M id k j = true) : depB ops ops.size k j = true := by
  unfold drawOkM at h
  have h1 := List.all_eq_true.1 (List.all_eq_true.1 h k (List.mem_range.2 hk)) j (List.mem_range.2 hj)
  simpa [hd] using h1
def drawOkL (M : List Nat) (id : Nat) (ops : Array Oper) : Bool :=
  (List.range ops.size).all fun j => (match ops[j]? with | some o => o.after.all fun e => !Region.binds .any e || decide (e.on < j) | none => true) &&
    (List.range j).all fun i => !confL M id ops i j || depB ops ops.size j i
theorem drawOkL_get {M : List Nat} {id : Nat} {ops : Array Oper} (h : drawOkL M id ops = true) {j : Nat} (hj : j < ops.size) :
    (∀ o, ops[j]? = some o → ∀ e, e ∈ o.after → Region.binds .any e = true → e.on < j) ∧ ∀ i, i < j → confL M id ops i j = true → depB ops ops.size j i = true := by
  unfold drawOkL at h
  rw [List.all_eq_true] at h
  have h1 := h j (List.mem_range.2 hj)
  rw [Bool.and_eq_true] at h1
  constructor
  · intro o ho e he hb
    have h2 := h1.1
    rw [ho] at h2
    have h3 := (Array.all_eq_true_iff_forall_mem.1 h2) e he
    simpa [hb] using h3
  · intro i hi hc
    have h2 := List.all_eq_true.1 h1.2 i (List.mem_range.2 hi)
    simpa [hc] using h2
theorem confL_look {M : List Nat} {id : Nat} {ops : Array Oper} {k i t : Nat} (hd : dstOf ops k = some t) (ht : t ∈ looksAt ops i) : confL M id ops k i = true ∧ confL M id ops i k = true := by
  constructor
  · unfold confL
    simp [hd, ht]
  · unfold confL
    simp [hd, ht]
theorem confL_dst {M : List Nat} {id : Nat} {ops : Array Oper} {k i t : Nat} (hd : dstOf ops k = some t) (ht : dstOf ops i = some t) : confL M id ops k i = true ∧ confL M id ops i k = true := by
  constructor <;> (unfold confL; simp [hd, ht])
theorem confL_heap {M : List Nat} {id : Nat} {ops : Array Oper} {k i : Nat} (hd : wM M id ops k = true) (ht : wM M id ops i = true ∨ isXi ops i = true) : confL M id ops k i = true ∧ confL M id ops i k = true := by
  constructor <;> (unfold confL; rcases ht with ht | ht <;> simp [hd, ht])
theorem isLd_still {op : Op} (h : isLd op = true) : isW op = false := by
  unfold isLd at h
  split at h
  · rfl
  · rfl
  · cases h

/-- a call that changes memory, in a region whose order is open: what it tells is fixed -/
def callW (P : Program) (f : AV) (xs : List AV) (H : List HO) (K : AV → List HO → Prop) : Prop :=
  match f with
  | .fn (.func f) first captured => ∃ r H', TS P f (first ++ xs ++ captured) H (pt r H') ∧ K r H'
  | _ => False
/-- .. under a guard -/
def TWG (P : Program) (M : List Nat) (ops : Array Oper) (o : Oper) (e : Env) (H : List HO) (K : AV → List HO → Prop) : Prop := ∃ r H', vcG P M false ops o e H (pt r H') ∧ K r H'
def vcW (P : Program) (M : List Nat) (ops : Array Oper) (o : Oper) (e : Env) (H : List HO) (K : AV → List HO → Prop) : Prop :=
  match o with
  | { op := .call { callee := .value x, args := xs, .. }, guard := none, .. } => callW P (evA e x) (xs.toList.map (evA e)) H K
  | { op := .call { callee := .value _, .. }, guard := some _, .. } => TWG P M ops o e H K
  | _ => False
theorem vcW_pt {P : Program} {M : List Nat} {ops : Array Oper} {o : Oper} {e : Env} {H : List HO} {K : AV → List HO → Prop} (h : vcW P M ops o e H K) : ∃ r H', vcG P M false ops o e H (pt r H') ∧ K r H' := by
  unfold vcW at h
  split at h
  · rename_i x xs _ _ _ _ _
    unfold callW at h
    split at h
    · rename_i f first captured hf
      obtain ⟨r, H', h1, h2⟩ := h
      refine ⟨r, H', ?_, h2⟩
      simp only [vcG, vcOp, lenM, vcOp0, hf]
      simpa [isP] using h1
    · exact h.elim
  · exact h
  · exact h.elim
/-- The region's condition: each load tells the same of all heaps that it may meet. -/
def vcD (P : Program) (M : List Nat) (id : Nat) (ops : Array Oper) : List Oper → Nat → (Env → List HO → Prop) → Env → List HO → List (Nat × List HO) → List (Nat × (List HO → Prop)) → Prop
  | [], _, K, e, H, _, _ => K e H
  | o :: os, i, K, e, H, past, pend =>
    if mkW M id i = true then vcW P M ops o e H fun r H' =>
      (∀ p, p ∈ pend → depM M id i p.1 = false → p.2 H') ∧ vcD P M id ops os (i + 1) K (updo e o.dst r) H' ((i, H) :: past) (pend.filter (fun p => !depM M id i p.1))
    else vcG P M true ops o e H fun r H' =>
      (isLd o.op = true → ∀ h, h ∈ past → depM M id i h.1 = false → vcG P M true ops o e h.2 (pt r h.2)) ∧ (isW o.op = true → ∀ p, p ∈ pend → depM M id i p.1 = false → p.2 H') ∧
      vcD P M id ops os (i + 1) K (updo e o.dst r) H' (if isW o.op = true then (i, H) :: past else past)
        (if isLd o.op = true then (i, fun h => vcG P M true ops o e h (pt r h)) :: pend else if isW o.op = true then pend.filter (fun p => !depM M id i p.1) else pend)

theorem StepG.of_pt {P : Program} {M : List Nat} {d : Bool} {ops : Array Oper} {o : Oper} {e : Env} {H H' : List HO} {r : AV} {i : Nat} (hi : ops[i]? = some o) (h : vcG P M d ops o e H (pt r H')) : StepG P ops i o e H r H' := by
  intro w0 Γ w a next Q hr hl hk
  refine vcG_wp' hi h w0 Γ w a next Q hr hl ?_
  rintro Γ' v r' H' w' g1 g2 g3 ⟨rfl, rfl⟩
  exact hk Γ' v w' g1 g2 g3

/-- one step of it -/
theorem vcD_one {P : Program} {M : List Nat} {id : Nat} {ops : Array Oper} {o : Oper} {os : List Oper} {i : Nat} {K : Env → List HO → Prop} {e : Env} {H : List HO} {past : List (Nat × List HO)} {pend : List (Nat × (List HO → Prop))}
    (hi : ops[i]? = some o) (h : vcD P M id ops (o :: os) i K e H past pend) : ∃ r H', StepG P ops i o e H r H' ∧ (wM M id ops i = false → H' = H) ∧
      (isRd o.op = false → wM M id ops i = false → ∀ H2, StepG P ops i o e H2 r H2) ∧
      (isLd o.op = true → wM M id ops i = false → vcG P M true ops o e H (pt r H) ∧ ∀ h, h ∈ past → depM M id i h.1 = false → vcG P M true ops o e h.2 (pt r h.2)) ∧
      (wM M id ops i = true → ∀ p, p ∈ pend → depM M id i p.1 = false → p.2 H') ∧
      vcD P M id ops os (i + 1) K (updo e o.dst r) H' (if wM M id ops i = true then (i, H) :: past else past)
        (if wM M id ops i = true then pend.filter (fun p => !depM M id i p.1) else if isLd o.op = true then (i, fun h => vcG P M true ops o e h (pt r h)) :: pend else pend) := by
  have hw : wM M id ops i = (isW o.op || mkW M id i) := by simp [wM, hi]
  simp only [vcD] at h
  split at h
  · rename_i hm
    obtain ⟨r, H', h1, h2, h3⟩ := vcW_pt (M := M) (ops := ops) h
    rw [hw, hm, Bool.or_true]
    refine ⟨r, H', StepG.of_pt hi h1, fun x => (by cases x), fun _ x => (by cases x), fun _ x => (by cases x), fun _ => h2, ?_⟩
    simpa using h3
  · rename_i hm
    have hm : mkW M id i = false := by simpa using hm
    obtain ⟨r, H', h1, ⟨c1, c2, c3⟩, h3, h4⟩ := vcG_pt h
    rw [hw, hm, Bool.or_false]
    refine ⟨r, H', StepG.of_pt hi h1, h3, fun a b H2 => StepG.of_pt hi (h4 a b H2), fun a b => ⟨?_, c1 a⟩, c2, ?_⟩
    · have := h3 b
      subst this
      exact h1
    · cases hwo : isW o.op with
      | true =>
        have hl : isLd o.op = false := by
          cases hl : isLd o.op with
          | false => rfl
          | true => rw [isLd_still hl] at hwo; cases hwo
        rw [hwo, hl] at c3
        simpa using c3
      | false => rw [hwo] at c3; simpa using c3

def Free (M : List Nat) (id : Nat) (ops : Array Oper) (j m : Nat) : Prop := (∀ k, j < k → k < m → wM M id ops k = true → depM M id k j = false) ∧ (∀ k, m ≤ k → k < j → wM M id ops k = true → depM M id j k = false)
theorem vcD_chain {P : Program} {M : List Nat} {id : Nat} {ops : Array Oper} {K : Env → List HO → Prop} : ∀ (n i : Nat) (e : Env) (H : List HO) (past : List (Nat × List HO)) (pend : List (Nat × (List HO → Prop))), i + n = ops.size → vcD P M id ops (ops.toList.drop i) i K e H past pend → (∀ p, p ∈ pend → p.2 H) →
    ∃ (X : Nat → AV) (Hs : Nat → List HO) (E : Nat → Env), E i = e ∧ Hs i = H ∧ K (E (i + n)) (Hs (i + n)) ∧ (∀ j, i ≤ j → j < i + n → E (j + 1) = updo (E j) (dstOf ops j) (X j) ∧ (wM M id ops j = false → Hs (j + 1) = Hs j) ∧
      ∀ o, ops[j]? = some o → StepG P ops j o (E j) (Hs j) (X j) (Hs (j + 1)) ∧ (isRi ops j = false → wM M id ops j = false → ∀ H2, StepG P ops j o (E j) H2 (X j) H2)) ∧
      (∀ p, p ∈ pend → ∀ m, i ≤ m → m ≤ i + n → (∀ k, i ≤ k → k < m → wM M id ops k = true → depM M id k p.1 = false) → p.2 (Hs m)) ∧
      (∀ j, i ≤ j → j < i + n → ∀ o, ops[j]? = some o → isLd o.op = true → wM M id ops j = false → (∀ h, h ∈ past → depM M id j h.1 = false → vcG P M true ops o (E j) h.2 (pt (X j) h.2)) ∧ ∀ m, i ≤ m → m ≤ i + n → Free M id ops j m → vcG P M true ops o (E j) (Hs m) (pt (X j) (Hs m)))
  | 0, i, e, H, past, pend, hn, h, hp => by
    rw [List.drop_of_length_le (by simp; omega)] at h
    refine ⟨fun _ => .any, fun _ => H, fun _ => e, rfl, rfl, h, fun j h1 h2 => by omega, fun p hpp m _ _ _ => hp p hpp, fun j h1 h2 => by omega⟩
  | n + 1, i, e, H, past, pend, hn, h, hp => by
    have hlt : i < ops.toList.length := by simp; omega
    rw [List.drop_eq_getElem_cons hlt] at h
    have hi : ops[i]? = some ops.toList[i] := by simp at hlt; simp [hlt]
    generalize ho : ops.toList[i] = o at *
    obtain ⟨r, H', h1, h3, h4, c1, c2, c3⟩ := vcD_one hi h
    have hpend : ∀ p, p ∈ (if wM M id ops i = true then pend.filter (fun p => !depM M id i p.1) else if isLd o.op = true then (i, fun h => vcG P M true ops o e h (pt r h)) :: pend else pend) → p.2 H' := by
      intro p hpp
      split at hpp
      · rename_i hw
        rw [List.mem_filter] at hpp
        exact c2 hw p hpp.1 (by simpa using hpp.2)
      · rename_i hw
        have hw : wM M id ops i = false := by simpa using hw
        have := h3 hw
        subst this
        split at hpp
        · rename_i hld
          rcases List.mem_cons.1 hpp with rfl | hpp
          · exact (c1 hld hw).1
          · exact hp p hpp
        · exact hp p hpp
    obtain ⟨X, Hs, E, e1, e2, e3, e4, e5, e6⟩ := vcD_chain n (i + 1) _ H' _ _ (by omega) c3 hpend
    refine ⟨fun j => if j = i then r else X j, fun j => if j = i then H else Hs j, fun j => if j = i then e else E j, if_pos rfl, if_pos rfl, ?_, ?_, ?_, ?_⟩
    · dsimp only
      rw [if_neg (by omega), if_neg (by omega), show i + (n + 1) = i + 1 + n by omega]
      exact e3
    · intro j hj1 hj2
      dsimp only
      by_cases hji : j = i
      · subst hji
        simp only [if_true]
        rw [if_neg (by omega), if_neg (by omega)]
        refine ⟨by rw [e1]; simp [dstOf, hi], fun hw => by rw [e2]; exact h3 hw, ?_⟩
        intro o' ho'
        rw [hi] at ho'
        cases ho'
        rw [e2]
        exact ⟨h1, fun a b H2 => h4 (by simpa [isRi, hi] using a) b H2⟩
      · simp only [if_neg hji, if_neg (show j + 1 ≠ i by omega)]
        exact e4 j (by omega) (by omega)
    · intro p hpp m hm1 hm2 hf
      dsimp only
      by_cases hm : m = i
      · rw [if_pos hm]; exact hp p hpp
      · rw [if_neg hm]
        refine e5 p ?_ m (by omega) (by omega) fun k k1 k2 k3 => hf k (by omega) k2 k3
        split
        · rename_i hw
          rw [List.mem_filter]
          exact ⟨hpp, by rw [hf i (Nat.le_refl _) (by omega) hw]; rfl⟩
        · split
          · exact List.mem_cons_of_mem _ hpp
          · exact hpp
    · intro j hj1 hj2 o' ho' hld hwj
      dsimp only
      by_cases hji : j = i
      · subst hji
        rw [hi] at ho'
        cases ho'
        simp only [if_true]
        obtain ⟨d1, d2⟩ := c1 hld hwj
        refine ⟨d2, fun m m1 m2 hf => ?_⟩
        by_cases hm : m = j
        · rw [if_pos hm]
          exact d1
        · rw [if_neg hm]
          rw [hwj, hld] at e5
          simp only [Bool.false_eq_true, if_false, if_true] at e5
          exact e5 (j, fun h => vcG P M true ops o e h (pt r h)) (List.mem_cons_self ..) m (by omega) (by omega) fun k k1 k2 k3 => hf.1 k (by omega) k2 k3
      · simp only [if_neg hji]
        obtain ⟨f1, f2⟩ := e6 j (by omega) (by omega) o' ho' hld hwj
        refine ⟨fun g hg hd => f1 g ?_ hd, fun m m1 m2 hf => ?_⟩
        · split
          · exact List.mem_cons_of_mem _ hg
          · exact hg
        · by_cases hm : m = i
          · rw [if_pos hm]
            subst hm
            cases hw : wM M id ops m with
            | true =>
              refine f1 (m, H) ?_ (hf.2 m (Nat.le_refl _) (by omega) hw)
              rw [if_pos hw]
              exact List.mem_cons_self ..
            | false =>
              have := f2 (m + 1) (Nat.le_refl _) (by omega) ⟨fun k k1 k2 => by omega, fun k k1 k2 k3 => hf.2 k (by omega) k2 k3⟩
              rw [e2, h3 hw] at this
              exact this
          · rw [if_neg hm]
            exact f2 m (by omega) (by omega) hf

theorem drawL_wp {P : Program} {M : List Nat} {id : Nat} {N : Nat} {ops : Array Oper} {K : Env → List HO → Prop} {e : Env} {H : List HO} (hmix : P.follows .mixedOrders = true) (hd : drawOkL M id ops = true) (hM : drawOkM M id ops = true)
    (h : vcD P M id ops ops.toList 0 K e H [] []) {w0 : Bs} {Γ : Gh} {w : World} {a : Act} (hr : R w0 Γ H w) (he : RE N Γ e a) {Q : Exit → Act → World → Prop}
    (hops : ∀ o, o ∈ ops → operOk N ops o = true)
    (hQ : ∀ Γ' e' H' a' w', Gh.Le Γ Γ' → R w0 Γ' H' w' → RE N Γ' e' a' → K e' H' → Q .normal a' w') : (Code.region id ops true).wp P Q a w := by
  obtain ⟨X, Hs, E, hE0, hH0, hK, hchain, _, hload⟩ := vcD_chain (P := P) (M := M) (id := id) (ops := ops) (K := K) ops.size 0 e H [] [] (by omega) (by simpa using h) (fun p hp => by cases hp)
  simp only [Nat.zero_add] at hK hchain hload
  have hE : ∀ i, i ≤ ops.size → E i = envI ops e X i := by
    intro i
    induction i with
    | zero => intro _; exact hE0
    | succ i ih => intro hi; rw [(hchain i (by omega) (by omega)).1, ih (by omega)]; rfl
  have hHW : ∀ i, wM M id ops i = false → Hs (if i < ops.size then i + 1 else i) = Hs i := by
    intro i hw
    split
    · rename_i hi; exact (hchain i (by omega) hi).2.1 hw
    · rfl
  -- past the end nothing changes
  let Hs' : Nat → List HO := fun i => Hs (min i ops.size)
  have hHs : ∀ i, i ≤ ops.size → Hs' i = Hs i := fun i hi => by show Hs (min i ops.size) = _; rw [Nat.min_eq_left hi]
  have hHW' : ∀ i, wM M id ops i = false → Hs' (i + 1) = Hs' i := by
    intro i hw
    rcases Nat.lt_or_ge i ops.size with hi | hi
    · rw [hHs _ (by omega), hHs _ (by omega)]
      exact (hchain i (by omega) hi).2.1 hw
    · show Hs (min (i + 1) ops.size) = Hs (min i ops.size)
      rw [Nat.min_eq_right (by omega), Nat.min_eq_right (by omega)]
  have main : ∀ (fuel : Nat) (listed : Array Bool) (a : Act) (w : World) (Γ' : Gh), listed.size = ops.size → Closed ops (fun i => listed.getD i true) → Gh.Le Γ Γ' →
      R w0 Γ' (Hs' (lastP (wM M id ops) (fun i => listed.getD i true) ops.size)) w → RE N Γ' (envD ops e X (fun i => listed.getD i true) ops.size) a → cnt (fun i => listed.getD i true) ops.size ≤ fuel →
      wpAny P .any ops Q fuel listed a w := by
    intro fuel
    induction fuel with
    | zero =>
      intro listed a w Γ' hsz hcl hle hR hRE hc
      have hall := cnt_zero ops.size (by omega : cnt (fun i => listed.getD i true) ops.size = 0)
      refine ⟨?_, ?_⟩
      · unfold Region.ready
        rw [List.filter_eq_nil_iff]
        intro i hi
        have := hall i (List.mem_range.1 hi)
        simp [this]
      · refine hQ Γ' _ _ a w hle hR hRE ?_
        rw [envD_all _ hall, lastP_all _ (fun i _ hw => hHW' i hw) hall, ← hE _ (Nat.le_refl _), hHs _ (Nat.le_refl _)]
        exact hK
    | succ fuel ih =>
      intro listed a w Γ' hsz hcl hle hR hRE hc
      have listedD : ∀ k, k < ops.size → listed.getD k false = listed.getD k true := by
        intro k hk
        simp only [Array.getD_eq_getD_getElem?]
        rw [Array.getElem?_eq_getElem (by omega)]
        rfl
      refine ⟨?_, ?_⟩
      · intro hnil
        have hall : ∀ i, i < ops.size → listed.getD i true = true := by
          intro i
          induction i using Nat.strongRecOn with
          | _ i ihi =>
            intro hi
            cases hDi : listed.getD i true with
            | true => rfl
            | false =>
              exfalso
              have hmem : i ∈ Region.ready .any ops listed := by
                unfold Region.ready
                rw [List.mem_filter]
                refine ⟨List.mem_range.2 hi, ?_⟩
                rw [hDi]
                rw [Array.getElem?_eq_getElem hi]
                simp only [Option.map_some, Option.getD_some, Bool.not_false, Bool.true_and]
                rw [Array.all_eq_true_iff_forall_mem]
                intro ed hed
                cases hb : Region.binds .any ed with
                | false => rfl
                | true =>
                  have hlt := (drawOkL_get hd hi).1 _ (Array.getElem?_eq_getElem hi) ed hed hb
                  rw [listedD _ (by omega), ihi ed.on hlt (by omega)]
                  rfl
              rw [hnil] at hmem
              cases hmem
        refine hQ Γ' _ _ a w hle hR hRE ?_
        rw [envD_all _ hall, lastP_all _ (fun i _ hw => hHW' i hw) hall, ← hE _ (Nat.le_refl _), hHs _ (Nat.le_refl _)]
        exact hK
      · intro i hi
        unfold Region.ready at hi
        rw [List.mem_filter] at hi
        obtain ⟨hi, hcond⟩ := hi
        have hi := List.mem_range.1 hi
        have hoi := Array.getElem?_eq_getElem hi
        generalize hog : ops[i] = o at hoi
        rw [hoi] at hcond
        simp only [Option.map_some, Option.getD_some, Bool.and_eq_true, Bool.not_eq_true'] at hcond
        obtain ⟨hDi, hafter⟩ := hcond
        have hready : ∀ ed, ed ∈ o.after → Region.binds .any ed = true → listed.getD ed.on true = true := by
          intro ed hed hb
          have h1 := (Array.all_eq_true_iff_forall_mem.1 hafter) ed hed
          rw [hb] at h1
          simp only [Bool.not_true, Bool.false_or] at h1
          have hlt := (drawOkL_get hd hi).1 o hoi ed hed hb
          rwa [listedD _ (by omega)] at h1
        have ord : ∀ k, k ≠ i → (confL M id ops k i = true ∧ confL M id ops i k = true) → k < ops.size → (k < i ↔ listed.getD k true = true) := by
          intro k hki ⟨c1, c2⟩ hk
          constructor
          · intro hlt
            exact depB_ready hcl hoi hready ((drawOkL_get hd hi).2 k hlt c1)
          · intro hDk
            rcases Nat.lt_or_ge k i with h | h
            · exact h
            · have hdep := (drawOkL_get hd hk).2 i (by omega) c2
              have := depB_closed hcl _ k i hdep hDk
              rw [hDi] at this; cases this
        have dlt : ∀ {k t}, dstOf ops k = some t → k < ops.size := by
          intro k t hkt
          rcases Nat.lt_or_ge k ops.size with h | h
          · exact h
          · simp [dstOf, Array.getElem?_eq_none h] at hkt
        have wlt : ∀ {k}, wM M id ops k = true → k < ops.size := by
          intro k hkt
          rcases Nat.lt_or_ge k ops.size with h | h
          · exact h
          · simp [wM, Array.getElem?_eq_none h] at hkt
        obtain ⟨_, _, hstep⟩ := hchain i (by omega) hi
        obtain ⟨hst, hneu⟩ := hstep o hoi
        have hok := hops o (by rw [← hog]; exact Array.getElem_mem hi)
        have envAt : ∀ t, t ∈ looksAt ops i → envD ops e X (fun i => listed.getD i true) ops.size t = E i t := by
          intro t ht
          rw [hE i (by omega)]
          exact (envD_at (fun k hk hdk => ord k hk (confL_look hdk ht) (dlt hdk)) hDi ops.size).2 (by omega)
        have hlook : Looks ops o Γ' (E i) a := by
          have hl := hRE.looks hok
          have la : looksAt ops i = opnTmps o ++ grdTmp ops o := by unfold looksAt; rw [hoi]
          refine ⟨fun x hx => ?_, fun j want t hg ht => ?_⟩
          · have := hl.opn x hx
            cases x with
            | tmp t =>
              have hm : t ∈ looksAt ops i := by
                rw [la, List.mem_append]
                left
                unfold opnTmps
                rw [List.mem_filterMap]
                exact ⟨.tmp t, by simpa using hx, rfl⟩
              simp only [evA] at this ⊢
              rw [← envAt t hm]
              exact this
            | const v => exact VR.ofConst _ v
            | global g => exact .any _
            | func f => exact .fn .nil .nil
          · obtain ⟨h1, h2⟩ := hl.grd j want t hg ht
            have hm : t ∈ looksAt ops i := by
              rw [la, List.mem_append]
              right
              unfold grdTmp
              rw [hg]
              simp [dstOf, ht]
            rw [← envAt t hm]
            exact ⟨h1, h2⟩
        have fin : ∀ (Hn : List HO) (hHn : Hn = Hs' (lastP (wM M id ops) (addD (fun i => listed.getD i true) i) ops.size)) Γ'' v w', Gh.Le Γ' Γ'' → VR Γ'' (X i) v → R w0 Γ'' Hn w' →
            wpAny P .any ops Q fuel (listed.setIfInBounds i true) (a.put o.dst v) w' := by
          intro Hn hHn Γ'' v w' g1 g2 g3
          have hD' : (fun k => (listed.setIfInBounds i true).getD k true) = addD (fun i => listed.getD i true) i := by
            funext k
            simp only [addD, Array.getD_eq_getD_getElem?, Array.getElem?_setIfInBounds]
            by_cases hk : k = i
            · subst hk
              rw [if_pos rfl, if_pos rfl, if_pos (by omega)]
              rfl
            · rw [if_neg (fun x => hk x.symm), if_neg hk]
          refine ih _ _ _ Γ'' (by simpa using hsz) ?_ (hle.trans g1) ?_ ?_ ?_
          · rw [hD']
            intro j oj hoj hDj ed hed hb
            by_cases hej : ed.on = i
            · rw [hej]; exact addD_self _ i
            · rw [addD_ne _ hej]
              by_cases hji : j = i
              · subst hji
                rw [hoi] at hoj
                cases hoj
                exact hready ed hed hb
              · rw [addD_ne _ hji] at hDj
                exact hcl j oj hoj hDj ed hed hb
          · rw [hD', ← hHn]; exact g3
          · rw [hD']
            have hdst : dstOf ops i = o.dst := by simp [dstOf, hoi]
            refine ⟨?_, ?_, fun t ht => ?_⟩
            · cases o.dst <;> simp [Act.put, hRE.size]
            · cases o.dst <;> simp [Act.put, hRE.defers]
            · by_cases hdt : dstOf ops i = some t
              · rw [(envD_add hDi).2 hdt (fun k hk hdk => ord k hk (confL_dst hdk hdt) (dlt hdk)) ops.size hi]
                rw [hdst] at hdt
                rw [hdt]
                simp only [Act.put, Array.getD_eq_getD_getElem?, Array.getElem?_setIfInBounds]
                rw [if_pos trivial, if_pos (by rw [hRE.size]; exact ht)]
                exact g2
              · rw [(envD_add hDi).1 hdt ops.size]
                have hv := (hRE.val t ht).mono g1
                rw [hdst] at hdt
                cases hod : o.dst with
                | none => exact hv
                | some d =>
                  have hne : d ≠ t := by rintro rfl; exact hdt hod
                  rw [put_ne hne]
                  exact hv
          · rw [hD']
            have := (cnt_add (D := fun i => listed.getD i true) hDi ops.size).2 hi
            omega
        cases hwi : wM M id ops i with
        | true =>
          have hcur : Hs' (lastP (wM M id ops) (fun i => listed.getD i true) ops.size) = Hs i := by
            rw [(lastP_at hHW' (fun k hk hwk => ord k hk (confL_heap hwk (.inl hwi)) (wlt hwk)) hDi ops.size).2 (by omega), hHs _ (by omega)]
          rw [hcur] at hR
          refine hst w0 Γ' w a _ Q hR hlook fun Γ'' v w' g1 g2 g3 => fin _ ?_ Γ'' v w' g1 g2 g3
          rw [(lastP_add hDi).2 hwi (fun k hk hwk => ord k hk (confL_heap hwk (.inl hwi)) (wlt hwk)) ops.size hi, hHs _ (by omega)]
        | false =>
          have hsame : Hs' (lastP (wM M id ops) (addD (fun i => listed.getD i true) i) ops.size) = Hs' (lastP (wM M id ops) (fun i => listed.getD i true) ops.size) := by rw [(lastP_add hDi).1 hwi]
          cases hli : isLd o.op with
          | true =>
            have hlw := lastP_le (W := wM M id ops) (D := fun i => listed.getD i true) ops.size
            have fr : Free M id ops i (lastP (wM M id ops) (fun i => listed.getD i true) ops.size) := by
              constructor
              · intro k k1 k2 k3
                cases hdm : depM M id k i with
                | false => rfl
                | true =>
                  exfalso
                  have hdk := drawOkM_get hM (wlt k3) hi hdm
                  have hDk : listed.getD k true = true := by
                    obtain ⟨t1, t2⟩ := lastP_top (W := wM M id ops) (D := fun i => listed.getD i true) ops.size (by omega)
                    by_cases hkm : k = lastP (wM M id ops) (fun i => listed.getD i true) ops.size - 1
                    · rw [hkm]; exact t2
                    · have hdep := (drawOkL_get hd (wlt t1)).2 k (by omega) (confL_heap k3 (.inl t1)).1
                      exact depB_closed hcl _ _ k hdep t2
                  have := depB_closed hcl _ k i hdk hDk
                  rw [hDi] at this; cases this
              · intro k k1 k2 k3
                cases hdm : depM M id i k with
                | false => rfl
                | true =>
                  exfalso
                  have hdk := drawOkM_get hM hi (wlt k3) hdm
                  have h1 := depB_ready hcl hoi hready hdk
                  have h2 := lastP_lt (W := wM M id ops) (D := fun i => listed.getD i true) ops.size k k1 (wlt k3) k3
                  rw [h2] at h1; cases h1
            have hld := (hload i (by omega) hi o hoi hli hwi).2 _ (Nat.zero_le _) hlw fr
            rw [← hHs _ hlw] at hld
            exact StepG.of_pt hoi hld w0 Γ' w a _ Q hR hlook fun Γ'' v w' g1 g2 g3 => fin _ hsame.symm Γ'' v w' g1 g2 g3
          | false =>
            cases hri : isXi ops i with
            | true =>
              have hcur : Hs' (lastP (wM M id ops) (fun i => listed.getD i true) ops.size) = Hs i := by
                rw [(lastP_at hHW' (fun k hk hwk => ord k hk (confL_heap hwk (.inr hri)) (wlt hwk)) hDi ops.size).2 (by omega), hHs _ (by omega)]
              rw [hcur] at hR hsame
              refine hst w0 Γ' w a _ Q hR hlook fun Γ'' v w' g1 g2 g3 => fin _ ?_ Γ'' v w' g1 g2 g3
              rw [hsame]
              exact (hchain i (by omega) hi).2.1 hwi
            | false =>
              have hri' : isRi ops i = false := by
                unfold isRi
                unfold isXi at hri
                rw [hoi] at hri ⊢
                dsimp only at hri ⊢
                unfold isRd
                split
                · rename_i hop; rw [hop] at hli; cases hli
                · rw [hli] at hri; simpa using hri
              exact hneu hri' hwi _ w0 Γ' w a _ Q hR hlook fun Γ'' v w' g1 g2 g3 => fin _ hsame.symm Γ'' v w' g1 g2 g3
  refine wp_region_any hmix ?_
  have hrep : (fun i => (Array.replicate ops.size false).getD i true) = fun i => decide (ops.size ≤ i) := by
    funext i
    simp only [Array.getD_eq_getD_getElem?]
    rcases Nat.lt_or_ge i ops.size with hi | hi
    · rw [Array.getElem?_eq_getElem (by simpa using hi)]; simp; omega
    · rw [Array.getElem?_eq_none (by simpa using hi)]; simp [hi]
  have hD0 : ∀ i, i < ops.size → (Array.replicate ops.size false).getD i true = false := fun i hi => by
    have := congrFun hrep i
    rw [this]; simp; exact hi
  refine main _ _ a _ Γ (by simp) ?_ (Gh.Le.refl Γ) ?_ ?_ ?_
  · intro j o ho hDj
    rw [hrep] at hDj
    have := (Array.getElem?_eq_some_iff.1 ho).1
    simp at hDj
    omega
  · have : lastP (wM M id ops) (fun i => (Array.replicate ops.size false).getD i true) ops.size = 0 := by
      have gen : ∀ n, n ≤ ops.size → lastP (wM M id ops) (fun i => (Array.replicate ops.size false).getD i true) n = 0 := by
        intro n
        induction n with
        | zero => intro _; rfl
        | succ n ih =>
          intro hn
          simp only [lastP]
          rw [if_neg (by rw [hD0 n (by omega)]; simp)]
          exact ih (by omega)
      exact gen _ (Nat.le_refl _)
    rw [this, hHs _ (by omega), hH0]
    exact hr.drew ⟨rfl, rfl, rfl, Nat.le_refl _, fun _ _ => rfl⟩
  · have : envD ops e X (fun i => (Array.replicate ops.size false).getD i true) ops.size = e := by
      have gen : ∀ n, n ≤ ops.size → envD ops e X (fun i => (Array.replicate ops.size false).getD i true) n = e := by
        intro n
        induction n with
        | zero => intro _; rfl
        | succ n ih =>
          intro hn
          simp only [envD]
          rw [if_neg (by rw [hD0 n (by omega)]; simp)]
          exact ih (by omega)
      exact gen _ (Nat.le_refl _)
    rw [this]
    exact he
  · have gen : ∀ n, cnt (fun i => (Array.replicate ops.size false).getD i true) n ≤ n := by
      intro n
      induction n with
      | zero => exact Nat.le_refl _
      | succ n ih => simp only [cnt]; split <;> omega
    exact gen _

end Go.Proofs.YtjplcdeaedflpaaGreatDoor.PL

namespace Go.Proofs.YtjplcdeaedflpaaGreatDoor.PL
open Go.RowKit

/-! ### a region whose memory operations are in order where they touch, and only there -/
def confE (ops : Array Oper) (i j : Nat) : Bool :=
  (match dstOf ops i with | some d => (looksAt ops j).contains d || dstOf ops j == some d | none => false) ||
  (match dstOf ops j with | some d => (looksAt ops i).contains d | none => false)
def drawOkE (ops : Array Oper) : Bool :=
  (List.range ops.size).all fun j => (match ops[j]? with | some o => o.after.all fun e => !Region.binds .any e || decide (e.on < j) | none => true) &&
    (List.range j).all fun i => !confE ops i j || depB ops ops.size j i
theorem drawOkE_get {ops : Array Oper} (h : drawOkE ops = true) {j : Nat} (hj : j < ops.size) :
    (∀ o, ops[j]? = some o → ∀ e, e ∈ o.after → Region.binds .any e = true → e.on < j) ∧ ∀ i, i < j → confE ops i j = true → depB ops ops.size j i = true := by
  unfold drawOkE at h
  rw [List.all_eq_true] at h
  have h1 := h j (List.mem_range.2 hj)
  rw [Bool.and_eq_true] at h1
  constructor
  · intro o ho e he hb
    have h2 := h1.1
    rw [ho] at h2
    have h3 := (Array.all_eq_true_iff_forall_mem.1 h2) e he
    simpa [hb] using h3
  · intro i hi hc
    have h2 := List.all_eq_true.1 h1.2 i (List.mem_range.2 hi)
    simpa [hc] using h2
theorem confE_look {ops : Array Oper} {k i t : Nat} (hd : dstOf ops k = some t) (ht : t ∈ looksAt ops i) : confE ops k i = true ∧ confE ops i k = true := by
  constructor <;> (unfold confE; simp [hd, ht])
theorem confE_dst {ops : Array Oper} {k i t : Nat} (hd : dstOf ops k = some t) (ht : dstOf ops i = some t) : confE ops k i = true ∧ confE ops i k = true := by
  constructor <;> (unfold confE; simp [hd, ht])

theorem draw_gen {P : Program} {N : Nat} {ops : Array Oper} {K : Env → List HO → Prop} {e : Env} {H : List HO} (hmix : P.follows .mixedOrders = true) (hd : drawOkE ops = true)
    (X : Nat → AV) (Hof : (Nat → Bool) → List HO) (h0 : Hof (fun i => decide (ops.size ≤ i)) = H) (hK : ∀ D, (∀ i, i < ops.size → D i = true) → K (envI ops e X ops.size) (Hof D))
    (hstep : ∀ D, Closed ops D → ∀ i o, ops[i]? = some o → D i = false → (∀ ed, ed ∈ o.after → Region.binds .any ed = true → D ed.on = true) → StepG P ops i o (envI ops e X i) (Hof D) (X i) (Hof (addD D i)))
    {w0 : Bs} {Γ : Gh} {w : World} {a : Act} (hr : R w0 Γ H w) (he : RE N Γ e a) {Q : Exit → Act → World → Prop}
    (hops : ∀ o, o ∈ ops → operOk N ops o = true)
    (hQ : ∀ Γ' e' H' a' w', Gh.Le Γ Γ' → R w0 Γ' H' w' → RE N Γ' e' a' → K e' H' → Q .normal a' w') {id : Nat} : (Code.region id ops true).wp P Q a w := by
  have main : ∀ (fuel : Nat) (listed : Array Bool) (a : Act) (w : World) (Γ' : Gh), listed.size = ops.size → Closed ops (fun i => listed.getD i true) → Gh.Le Γ Γ' →
      R w0 Γ' (Hof (fun i => listed.getD i true)) w → RE N Γ' (envD ops e X (fun i => listed.getD i true) ops.size) a → cnt (fun i => listed.getD i true) ops.size ≤ fuel →
      wpAny P .any ops Q fuel listed a w := by
    intro fuel
    induction fuel with
    | zero =>
      intro listed a w Γ' hsz hcl hle hR hRE hc
      have hall := cnt_zero ops.size (by omega : cnt (fun i => listed.getD i true) ops.size = 0)
      refine ⟨?_, ?_⟩
      · unfold Region.ready
        rw [List.filter_eq_nil_iff]
        intro i hi
        have := hall i (List.mem_range.1 hi)
        simp [this]
      · refine hQ Γ' _ _ a w hle hR hRE ?_
        rw [envD_all _ hall]
        exact hK _ hall
    | succ fuel ih =>
      intro listed a w Γ' hsz hcl hle hR hRE hc
      have listedD : ∀ k, k < ops.size → listed.getD k false = listed.getD k true := by
        intro k hk
        simp only [Array.getD_eq_getD_getElem?]
        rw [Array.getElem?_eq_getElem (by omega)]
        rfl
      refine ⟨?_, ?_⟩
      · intro hnil
        have hall : ∀ i, i < ops.size → listed.getD i true = true := by
          intro i
          induction i using Nat.strongRecOn with
          | _ i ihi =>
            intro hi
            cases hDi : listed.getD i true with
            | true => rfl
            | false =>
              exfalso
              have hmem : i ∈ Region.ready .any ops listed := by
                unfold Region.ready
                rw [List.mem_filter]
                refine ⟨List.mem_range.2 hi, ?_⟩
                rw [hDi]
                rw [Array.getElem?_eq_getElem hi]
                simp only [Option.map_some, Option.getD_some, Bool.not_false, Bool.true_and]
                rw [Array.all_eq_true_iff_forall_mem]
                intro ed hed
                cases hb : Region.binds .any ed with
                | false => rfl
                | true =>
                  have hlt := (drawOkE_get hd hi).1 _ (Array.getElem?_eq_getElem hi) ed hed hb
                  rw [listedD _ (by omega), ihi ed.on hlt (by omega)]
                  rfl
              rw [hnil] at hmem
              cases hmem
        refine hQ Γ' _ _ a w hle hR hRE ?_
        rw [envD_all _ hall]
        exact hK _ hall
      · intro i hi
        unfold Region.ready at hi
        rw [List.mem_filter] at hi
        obtain ⟨hi, hcond⟩ := hi
        have hi := List.mem_range.1 hi
        have hoi := Array.getElem?_eq_getElem hi
        generalize hog : ops[i] = o at hoi
        rw [hoi] at hcond
        simp only [Option.map_some, Option.getD_some, Bool.and_eq_true, Bool.not_eq_true'] at hcond
        obtain ⟨hDi, hafter⟩ := hcond
        have hready : ∀ ed, ed ∈ o.after → Region.binds .any ed = true → listed.getD ed.on true = true := by
          intro ed hed hb
          have h1 := (Array.all_eq_true_iff_forall_mem.1 hafter) ed hed
          rw [hb] at h1
          simp only [Bool.not_true, Bool.false_or] at h1
          have hlt := (drawOkE_get hd hi).1 o hoi ed hed hb
          rwa [listedD _ (by omega)] at h1
        have ord : ∀ k, k ≠ i → (confE ops k i = true ∧ confE ops i k = true) → k < ops.size → (k < i ↔ listed.getD k true = true) := by
          intro k hki ⟨c1, c2⟩ hk
          constructor
          · intro hlt
            exact depB_ready hcl hoi hready ((drawOkE_get hd hi).2 k hlt c1)
          · intro hDk
            rcases Nat.lt_or_ge k i with h | h
            · exact h
            · have hdep := (drawOkE_get hd hk).2 i (by omega) c2
              have := depB_closed hcl _ k i hdep hDk
              rw [hDi] at this; cases this
        have dlt : ∀ {k t}, dstOf ops k = some t → k < ops.size := by
          intro k t hkt
          rcases Nat.lt_or_ge k ops.size with h | h
          · exact h
          · simp [dstOf, Array.getElem?_eq_none h] at hkt
        have hst := hstep _ hcl i o hoi hDi hready
        have hok := hops o (by rw [← hog]; exact Array.getElem_mem hi)
        have envAt : ∀ t, t ∈ looksAt ops i → envD ops e X (fun i => listed.getD i true) ops.size t = envI ops e X i t := by
          intro t ht
          exact (envD_at (fun k hk hdk => ord k hk (confE_look hdk ht) (dlt hdk)) hDi ops.size).2 (by omega)
        have hlook : Looks ops o Γ' (envI ops e X i) a := by
          have hl := hRE.looks hok
          have la : looksAt ops i = opnTmps o ++ grdTmp ops o := by unfold looksAt; rw [hoi]
          refine ⟨fun x hx => ?_, fun j want t hg ht => ?_⟩
          · have := hl.opn x hx
            cases x with
            | tmp t =>
              have hm : t ∈ looksAt ops i := by
                rw [la, List.mem_append]
                left
                unfold opnTmps
                rw [List.mem_filterMap]
                exact ⟨.tmp t, by simpa using hx, rfl⟩
              simp only [evA] at this ⊢
              rw [← envAt t hm]
              exact this
            | const v => exact VR.ofConst _ v
            | global g => exact .any _
            | func f => exact .fn .nil .nil
          · obtain ⟨h1, h2⟩ := hl.grd j want t hg ht
            have hm : t ∈ looksAt ops i := by
              rw [la, List.mem_append]
              right
              unfold grdTmp
              rw [hg]
              simp [dstOf, ht]
            rw [← envAt t hm]
            exact ⟨h1, h2⟩
        refine hst w0 Γ' w a _ Q hR hlook fun Γ'' v w' g1 g2 g3 => ?_
        have hD' : (fun k => (listed.setIfInBounds i true).getD k true) = addD (fun i => listed.getD i true) i := by
          funext k
          simp only [addD, Array.getD_eq_getD_getElem?, Array.getElem?_setIfInBounds]
          by_cases hk : k = i
          · subst hk
            rw [if_pos rfl, if_pos rfl, if_pos (by omega)]
            rfl
          · rw [if_neg (fun x => hk x.symm), if_neg hk]
        refine ih _ _ _ Γ'' (by simpa using hsz) ?_ (hle.trans g1) ?_ ?_ ?_
        · rw [hD']
          intro j oj hoj hDj ed hed hb
          by_cases hej : ed.on = i
          · rw [hej]; exact addD_self _ i
          · rw [addD_ne _ hej]
            by_cases hji : j = i
            · subst hji
              rw [hoi] at hoj
              cases hoj
              exact hready ed hed hb
            · rw [addD_ne _ hji] at hDj
              exact hcl j oj hoj hDj ed hed hb
        · rw [hD']; exact g3
        · rw [hD']
          have hdst : dstOf ops i = o.dst := by simp [dstOf, hoi]
          refine ⟨?_, ?_, fun t ht => ?_⟩
          · cases o.dst <;> simp [Act.put, hRE.size]
          · cases o.dst <;> simp [Act.put, hRE.defers]
          · by_cases hdt : dstOf ops i = some t
            · rw [(envD_add hDi).2 hdt (fun k hk hdk => ord k hk (confE_dst hdk hdt) (dlt hdk)) ops.size hi]
              rw [hdst] at hdt
              rw [hdt]
              simp only [Act.put, Array.getD_eq_getD_getElem?, Array.getElem?_setIfInBounds]
              rw [if_pos trivial, if_pos (by rw [hRE.size]; exact ht)]
              exact g2
            · rw [(envD_add hDi).1 hdt ops.size]
              have hv := (hRE.val t ht).mono g1
              rw [hdst] at hdt
              cases hod : o.dst with
              | none => exact hv
              | some d =>
                have hne : d ≠ t := by rintro rfl; exact hdt hod
                rw [put_ne hne]
                exact hv
        · rw [hD']
          have := (cnt_add (D := fun i => listed.getD i true) hDi ops.size).2 hi
          omega
  refine wp_region_any hmix ?_
  have hrep : (fun i => (Array.replicate ops.size false).getD i true) = fun i => decide (ops.size ≤ i) := by
    funext i
    simp only [Array.getD_eq_getD_getElem?]
    rcases Nat.lt_or_ge i ops.size with hi | hi
    · rw [Array.getElem?_eq_getElem (by simpa using hi)]; simp; omega
    · rw [Array.getElem?_eq_none (by simpa using hi)]; simp [hi]
  have hD0 : ∀ i, i < ops.size → (Array.replicate ops.size false).getD i true = false := fun i hi => by
    have := congrFun hrep i
    rw [this]; simp; exact hi
  refine main _ _ a _ Γ (by simp) ?_ (Gh.Le.refl Γ) ?_ ?_ ?_
  · intro j o ho hDj
    rw [hrep] at hDj
    have := (Array.getElem?_eq_some_iff.1 ho).1
    simp at hDj
    omega
  · rw [hrep, h0]
    exact hr.drew ⟨rfl, rfl, rfl, Nat.le_refl _, fun _ _ => rfl⟩
  · have : envD ops e X (fun i => (Array.replicate ops.size false).getD i true) ops.size = e := by
      have gen : ∀ n, n ≤ ops.size → envD ops e X (fun i => (Array.replicate ops.size false).getD i true) n = e := by
        intro n
        induction n with
        | zero => intro _; rfl
        | succ n ih =>
          intro hn
          simp only [envD]
          rw [if_neg (by rw [hD0 n (by omega)]; simp)]
          exact ih (by omega)
      exact gen _ (Nat.le_refl _)
    rw [this]
    exact he
  · have gen : ∀ n, cnt (fun i => (Array.replicate ops.size false).getD i true) n ≤ n := by
      intro n
      induction n with
      | zero => exact Nat.le_refl _
      | succ n ih => simp only [cnt]; split <;> omega
    exact gen _

/-! what an operation touches -/
inductive Tr where
  | rd (c : Nat)
  | wr (c : Nat)
  | bar
def Tr.clash : Tr → Tr → Prop
  | .rd _, .rd _ => False
  | .rd c, .wr d => c = d
  | .wr c, .rd d => c = d
  | .wr c, .wr d => c = d
  | .bar, _ => True
  | _, .bar => True
theorem Tr.clash_symm {a b : Tr} (h : a.clash b) : b.clash a := by
  cases a <;> cases b <;> simp only [Tr.clash] at h ⊢ <;> exact h.symm
inductive Kd where
  | free
  | read (c : Nat)
  | write (c : Nat) (v : HO)
  | bar (H : List HO)
def Kd.tr : Kd → Option Tr
  | .free => none
  | .read c => some (.rd c)
  | .write c _ => some (.wr c)
  | .bar _ => some .bar
def Kd.app : Kd → List HO → List HO
  | .free, H => H
  | .read _, H => H
  | .write c v, H => H.set c v
  | .bar H', _ => H'
def Kd.ok (P : Program) (ops : Array Oper) (i : Nat) (o : Oper) (e : Env) (H : List HO) (X : AV) : Kd → Prop
  | .free => ∀ H2, StepG P ops i o e H2 X H2
  | .read c => ∀ H2 : List HO, H2[c]? = H[c]? → StepG P ops i o e H2 X H2
  | .write c v => ∀ H2 : List HO, H2[c]? = H[c]? → StepG P ops i o e H2 X (H2.set c v)
  | .bar H' => StepG P ops i o e H X H'
def hof (kd : Nat → Kd) (H : List HO) (D : Nat → Bool) : Nat → List HO
  | 0 => H
  | i + 1 => if D i = true then (kd i).app (hof kd H D i) else hof kd H D i
def ful (kd : Nat → Kd) (H : List HO) : Nat → List HO
  | 0 => H
  | i + 1 => (kd i).app (ful kd H i)
/-- does it change this cell -/
def Kd.hit (c : Nat) : Kd → Prop
  | .write d _ => c = d
  | .bar _ => True
  | _ => False
theorem Kd.app_miss {c : Nat} {k : Kd} (h : ¬ k.hit c) (H : List HO) : (k.app H)[c]? = H[c]? := by
  cases k with
  | free => rfl
  | read => rfl
  | write d v => exact List.getElem?_set_ne (fun e => h e.symm)
  | bar => exact (h trivial).elim
theorem Kd.app_hit {c : Nat} {k : Kd} {H H' : List HO} (h : H[c]? = H'[c]?) : (k.app H)[c]? = (k.app H')[c]? := by
  cases k with
  | free => exact h
  | read => exact h
  | write d v =>
    show (H.set d v)[c]? = (H'.set d v)[c]?
    by_cases e : d = c
    · subst e
      rw [List.getElem?_set_self', List.getElem?_set_self', h]
    · rw [List.getElem?_set_ne e, List.getElem?_set_ne e, h]
  | bar => rfl
theorem hof_all {kd : Nat → Kd} {H : List HO} {D : Nat → Bool} : ∀ n, (∀ i, i < n → D i = true) → hof kd H D n = ful kd H n
  | 0, _ => rfl
  | n + 1, h => by
    simp only [hof, ful]
    rw [if_pos (h n (by omega)), hof_all n fun i hi => h i (by omega)]
theorem hof_none {kd : Nat → Kd} {H : List HO} {D : Nat → Bool} : ∀ n, (∀ i, i < n → D i = false) → hof kd H D n = H
  | 0, _ => rfl
  | n + 1, h => by
    simp only [hof]
    rw [if_neg (by rw [h n (by omega)]; simp), hof_none n fun i hi => h i (by omega)]
section hof
variable {kd : Nat → Kd} {H : List HO} {D : Nat → Bool} {i : Nat}
theorem hof_at {c : Nat} (hi : D i = false) (N : Nat) (h : ∀ k, k < N → k ≠ i → (kd k).hit c → (k < i ↔ D k = true)) :
    ∀ n, n ≤ N → (n ≤ i → (hof kd H D n)[c]? = (ful kd H n)[c]?) ∧ (i ≤ n → (hof kd H D n)[c]? = (ful kd H i)[c]?) := by
  intro n
  induction n with
  | zero => exact fun _ => ⟨fun _ => rfl, fun hl => by obtain rfl : i = 0 := by omega
                                                       rfl⟩
  | succ n ih =>
    intro hN
    have ih := ih (by omega)
    have a1 : n + 1 ≤ i → (hof kd H D (n + 1))[c]? = (ful kd H (n + 1))[c]? := by
      intro hn
      have i1 := ih.1 (by omega)
      simp only [hof, ful]
      by_cases hh : (kd n).hit c
      · rw [if_pos ((h n (by omega) (by omega) hh).1 (by omega))]
        exact Kd.app_hit i1
      · rw [Kd.app_miss hh]
        split
        · rw [Kd.app_miss hh]; exact i1
        · exact i1
    refine ⟨a1, fun hn => ?_⟩
    rcases Nat.lt_or_ge n i with hlt | hge
    · obtain rfl : i = n + 1 := by omega
      exact a1 (Nat.le_refl _)
    · have i2 := ih.2 hge
      simp only [hof]
      split
      · rename_i hD
        by_cases hh : (kd n).hit c
        · by_cases hni : n = i
          · subst hni; rw [hi] at hD; cases hD
          · have := (h n (by omega) hni hh).2 hD; omega
        · rw [Kd.app_miss hh]; exact i2
      · exact i2
theorem hof_pre : ∀ n, n ≤ i → hof kd H (addD D i) n = hof kd H D n
  | 0, _ => rfl
  | n + 1, h => by
    simp only [hof]
    rw [addD_ne D (show n ≠ i by omega), hof_pre n (by omega)]
/-- what touches nothing changes nothing -/
theorem hof_still (hk : ∀ H, (kd i).app H = H) (hi : D i = false) (n : Nat) : hof kd H (addD D i) n = hof kd H D n := by
  induction n with
  | zero => rfl
  | succ n ih =>
    simp only [hof]
    by_cases hn : n = i
    · subst hn
      rw [if_pos (addD_self D n), hk, if_neg (by rw [hi]; simp)]
      exact ih
    · rw [addD_ne D hn, ih]
theorem hof_write {c : Nat} {v : HO} (hk : kd i = .write c v) (hi : D i = false) (N : Nat) (h : ∀ k, k < N → k ≠ i → (kd k).hit c → (k < i ↔ D k = true)) : ∀ n, n ≤ N → i < n → hof kd H (addD D i) n = (hof kd H D n).set c v := by
  intro n
  induction n with
  | zero => intro _ h; omega
  | succ n ih =>
    intro hN hn
    simp only [hof]
    by_cases hni : n = i
    · subst hni
      rw [if_pos (addD_self D n), if_neg (by rw [hi]; simp), hof_pre n (Nat.le_refl _), hk]
      rfl
    · rw [addD_ne D hni]
      have ih := ih (by omega) (by omega)
      split
      · rename_i hD
        have hnot : ¬ (kd n).hit c := fun hh => by have := (h n (by omega) hni hh).2 hD; omega
        rw [ih]
        cases hkn : kd n with
        | free => rfl
        | read => rfl
        | write d u =>
          rw [hkn] at hnot
          exact List.set_comm _ _ (fun e => hnot e)
        | bar => rw [hkn] at hnot; exact (hnot trivial).elim
      · exact ih
theorem hof_bar (hi : D i = false) (N : Nat) (h : ∀ k, k < N → k ≠ i → (kd k).tr ≠ none → (k < i ↔ D k = true)) : ∀ n, n ≤ N → (n ≤ i → hof kd H D n = ful kd H n) ∧ (i ≤ n → hof kd H D n = ful kd H i) := by
  intro n
  induction n with
  | zero => exact fun _ => ⟨fun _ => rfl, fun hl => by obtain rfl : i = 0 := by omega
                                                       rfl⟩
  | succ n ih =>
    intro hN
    have ih := ih (by omega)
    have free : (kd n).tr = none → ∀ H, (kd n).app H = H := by
      intro e H
      cases hk : kd n with
      | free => rfl
      | read => rfl
      | write => rw [hk] at e; cases e
      | bar => rw [hk] at e; cases e
    have a1 : n + 1 ≤ i → hof kd H D (n + 1) = ful kd H (n + 1) := by
      intro hn
      have i1 := ih.1 (by omega)
      simp only [hof, ful]
      by_cases hh : (kd n).tr = none
      · rw [free hh, free hh]
        split <;> exact i1
      · rw [if_pos ((h n (by omega) (by omega) hh).1 (by omega)), i1]
    refine ⟨a1, fun hn => ?_⟩
    rcases Nat.lt_or_ge n i with hlt | hge
    · obtain rfl : i = n + 1 := by omega
      exact a1 (Nat.le_refl _)
    · have i2 := ih.2 hge
      simp only [hof]
      split
      · rename_i hD
        by_cases hh : (kd n).tr = none
        · rw [free hh]; exact i2
        · by_cases hni : n = i
          · subst hni; rw [hi] at hD; cases hD
          · have := (h n (by omega) hni hh).2 hD; omega
      · exact i2
theorem hof_bar' {H' : List HO} (hk : kd i = .bar H') (hi : D i = false) (N : Nat) (h : ∀ k, k < N → k ≠ i → (kd k).tr ≠ none → (k < i ↔ D k = true)) : ∀ n, n ≤ N → i < n → hof kd H (addD D i) n = H' := by
  intro n
  induction n with
  | zero => intro _ h; omega
  | succ n ih =>
    intro hN hn
    simp only [hof]
    by_cases hni : n = i
    · subst hni
      rw [if_pos (addD_self D n), hk]
      rfl
    · rw [addD_ne D hni]
      have ih := ih (by omega) (by omega)
      split
      · rename_i hD
        have hnot : (kd n).tr = none := Decidable.byContradiction fun hh => by have := (h n (by omega) hni hh).2 hD; omega
        cases hkn : kd n with
        | free => exact ih
        | read => exact ih
        | write => rw [hkn] at hnot; cases hnot
        | bar => rw [hkn] at hnot; cases hnot
      · exact ih
end hof

/-- The region's law: all that touch one another hang on one another. -/
theorem draw_kd {P : Program} {M : List Nat} {id N : Nat} {ops : Array Oper} {K : Env → List HO → Prop} {e : Env} {H : List HO} (hmix : P.follows .mixedOrders = true) (hd : drawOkE ops = true) (hM : drawOkM M id ops = true)
    (X : Nat → AV) (kd : Nat → Kd) (hK : K (envI ops e X ops.size) (ful kd H ops.size))
    (hok : ∀ i o, ops[i]? = some o → (kd i).ok P ops i o (envI ops e X i) (ful kd H i) (X i))
    (hcl : ∀ j k, k < j → j < ops.size → ∀ a b, (kd j).tr = some a → (kd k).tr = some b → a.clash b → depM M id j k = true)
    {w0 : Bs} {Γ : Gh} {w : World} {a : Act} (hr : R w0 Γ H w) (he : RE N Γ e a) {Q : Exit → Act → World → Prop}
    (hops : ∀ o, o ∈ ops → operOk N ops o = true)
    (hQ : ∀ Γ' e' H' a' w', Gh.Le Γ Γ' → R w0 Γ' H' w' → RE N Γ' e' a' → K e' H' → Q .normal a' w') : (Code.region id ops true).wp P Q a w := by
  refine draw_gen hmix hd X (fun D => hof kd H D ops.size) (hof_none _ fun i hi => by simp; exact hi) (fun D hD => by rw [hof_all _ hD]; exact hK) ?_ hr he hops hQ
  intro D hD i o hi hDi hrd
  have hlt := (Array.getElem?_eq_some_iff.1 hi).1
  have ord : ∀ k, k < ops.size → k ≠ i → ∀ a b, (kd i).tr = some a → (kd k).tr = some b → a.clash b → (k < i ↔ D k = true) := by
    intro k hk hki a b ha hb hc
    constructor
    · intro h
      exact depB_ready hD hi hrd (drawOkM_get hM hlt hk (hcl i k h hlt a b ha hb hc))
    · intro hDk
      rcases Nat.lt_or_ge k i with h | h
      · exact h
      · have := depB_closed hD _ k i (drawOkM_get hM hk hlt (hcl k i (by omega) hk b a hb ha (Tr.clash_symm hc))) hDk
        rw [hDi] at this
        cases this
  have ok := hok i o hi
  have hitc : ∀ c, ((kd i).tr = some (.rd c) ∨ (kd i).tr = some (.wr c)) → ∀ k, k < ops.size → k ≠ i → (kd k).hit c → (k < i ↔ D k = true) := by
    intro c ht k hk hki hh
    cases hkk : kd k with
    | free => rw [hkk] at hh; exact hh.elim
    | read => rw [hkk] at hh; exact hh.elim
    | write d v =>
      rw [hkk] at hh
      rcases ht with ht | ht <;> exact ord k hk hki _ (.wr d) ht (by rw [hkk]; rfl) hh
    | bar => rcases ht with ht | ht <;> exact ord k hk hki _ .bar ht (by rw [hkk]; rfl) trivial
  cases hk : kd i with
  | free =>
    rw [hk] at ok
    rw [hof_still (fun H => by rw [hk]; rfl) hDi]
    exact ok _
  | read c =>
    rw [hk] at ok
    rw [hof_still (fun H => by rw [hk]; rfl) hDi]
    exact ok _ ((hof_at hDi ops.size (hitc c (.inl (by rw [hk]; rfl))) ops.size (Nat.le_refl _)).2 (by omega))
  | write c v =>
    rw [hk] at ok
    have hh := hitc c (.inr (by rw [hk]; rfl))
    rw [hof_write hk hDi ops.size hh ops.size (Nat.le_refl _) hlt]
    exact ok _ ((hof_at hDi ops.size hh ops.size (Nat.le_refl _)).2 (by omega))
  | bar H' =>
    rw [hk] at ok
    have hh : ∀ k, k < ops.size → k ≠ i → (kd k).tr ≠ none → (k < i ↔ D k = true) := by
      intro k hk' hki hn
      cases ht : (kd k).tr with
      | none => exact absurd ht hn
      | some b => exact ord k hk' hki .bar b (by rw [hk]; rfl) ht trivial
    rw [hof_bar' hk hDi ops.size hh ops.size (Nat.le_refl _) hlt, (hof_bar hDi ops.size hh ops.size (Nat.le_refl _)).2 (by omega)]
    exact ok

/-! ### its condition -/
def isAl (o : Oper) : Bool := match o.guard with | none => (match o.op with | .alloc _ => true | .box .. => true | _ => false) | some _ => false
def alZ (P : Program) (e : Env) (o : Oper) : Option AV := match o.op with | .alloc t => zOf P t | .box _ x => some (evA e x) | _ => none
/-- is this a variable that holds now this, now that truth: said ahead -/
def ubM (M : List Nat) (id i : Nat) : Bool := M.contains (4000000 + id * 100 + i)
def alR (u : Bool) (z : Option AV) (nx : Nat) (H : List HO) (K : AV → List HO → Prop) : Prop :=
  match z with
  | some z => z.okc = true ∧ H[nx]? = some .dead ∧ (u = true → ∃ b, z = .bool b) ∧ K (.ptr nx 0) (H.set nx (.box (if u = true then [.ub] else z.cells)))
  | none => False
def stA (o : Oper) : Option (TypeId × Operand × Operand) := match o.guard with | none => (match o.op with | .store t a x => some (t, a, x) | _ => none) | some _ => none
def isTr (x : AV) : Prop := match x with | .bool _ => True | .ub => True | _ => False
def stU (P : Program) (s : Option (TypeId × Operand × Operand)) (e : Env) (H : List HO) (K : AV → Prop) : Prop :=
  match s with
  | some (t, a, x) => (match evA e a with | .ptr c 0 => H[c]? = some (.box [.ub]) | _ => False) ∧ szOf P t = some 1 ∧ isTr (evA e x) ∧ K (evA e a)
  | none => False
def rdT (x : AV) : Option Tr := match x with | .ptr i _ => some (.rd i) | .eptr i _ _ => some (.rd i) | _ => none
def wrT (x : AV) : Option Tr := match x with | .ptr i _ => some (.wr i) | .eptr i _ _ => some (.wr i) | _ => none
def trO (e : Env) (o : Oper) : Option Tr :=
  match o.guard with
  | none => (match o.op with | .load _ a => rdT (evA e a) | .store _ a _ => wrT (evA e a) | op => if (isRd op || isW op) = true then some .bar else none)
  | some _ => if (isRd o.op || isW o.op) = true then some .bar else none
def clL (M : List Nat) (id i : Nat) (t : Tr) : List (Nat × Tr) → Prop
  | [] => True
  | p :: tr => (t.clash p.2 → depM M id i p.1 = true) ∧ clL M id i t tr
def clT (M : List Nat) (id i : Nat) (t : Option Tr) (tr : List (Nat × Tr)) : Prop := match t with | some t => clL M id i t tr | none => True
def adT (i : Nat) (t : Option Tr) (tr : List (Nat × Tr)) : List (Nat × Tr) := match t with | some t => (i, t) :: tr | none => tr
/-- is this a call that makes one row and touches nothing else: said ahead -/
def newM (M : List Nat) (id i : Nat) : Bool := M.contains (5000000 + id * 100 + i)
def callN (P : Program) (f : AV) (xs : List AV) (nx : Nat) (H : List HO) (K : AV → List HO → Prop) : Prop :=
  match f with
  | .fn (.func f) first captured => H[nx]? = some .dead ∧ ((∃ n sz cs, (∀ k, AV.lts k cs = true) ∧ (∀ H2 : List HO, TS P f (first ++ xs ++ captured) H2 (pt (.mv H2.length n sz 0 n) (H2 ++ [.row n sz cs]))) ∧ K (.mv nx n sz 0 n) (H.set nx (.row n sz cs))) ∨
      ∃ r, (∀ H2 : List HO, TS P f (first ++ xs ++ captured) H2 (pt r H2)) ∧ K r H)
  | _ => False
def vcN (P : Program) (o : Oper) (e : Env) (nx : Nat) (H : List HO) (K : AV → List HO → Prop) : Prop :=
  match o with
  | { op := .call { callee := .value x, args := xs, .. }, guard := none, .. } => callN P (evA e x) (xs.toList.map (evA e)) nx H K
  | _ => False
/-- is this an append whose room stands at a place kept ahead: said ahead -/
def apM (M : List Nat) (id i : Nat) : Bool := M.contains (6000000 + id * 100 + i)
def apA (P : Program) (t t' : TypeId) (x y : AV) (nx : Nat) (H : List HO) (K : Tr → AV → List HO → Prop) : Prop :=
  H[nx]? = some .dead ∧ match x, y with
  | .sl .exact xs, .sl own ys => appS P t t' false (.sl .exact xs) (.sl own ys) [] ∧ (ys.length = 0 → K (.wr nx) (.sl .exact xs) H) ∧ (ys.length ≠ 0 → (∀ k, AV.lts k ((xs ++ ys).flatMap AV.cells) = true) ∧ K (.wr nx) (.sl (.tok nx) (xs ++ ys)) (H.set nx (.spare (xs.length + ys.length) (szA P t))))
  | .sl (.tok i) xs, .sl own ys => appS P t t' false (.sl (.tok i) xs) (.sl own ys) H ∧ K (.wr i) (.sl (.tok i) (xs ++ ys)) (H.set i (.spare (xs.length + ys.length) (szA P t)))
  | _, _ => False
def vcA (P : Program) (o : Oper) (e : Env) (nx : Nat) (H : List HO) (K : Tr → AV → List HO → Prop) : Prop :=
  match o with
  | { op := .call { callee := .builtin .append, args := xs, argTypes := ts }, guard := none, .. } => match ts.toList with
    | [t, t'] => app2 (xs.toList.map (evA e)) (fun x y => apA P t t' x.ex y nx H K) False
    | _ => False
  | _ => False
def vcR (P : Program) (M : List Nat) (id : Nat) (ops : Array Oper) : List Oper → Nat → Nat → List (Nat × Tr) → (Env → List HO → Prop) → Env → List HO → Prop
  | [], _, _, _, K, e, H => K e H
  | o :: os, i, nx, tr, K, e, H =>
    if apM M id i = true then vcA P o e nx H fun t r H' => clT M id i (some t) tr ∧ vcR P M id ops os (i + 1) (nx + 1) (adT i (some t) tr) K (updo e o.dst r) H'
    else if newM M id i = true then vcN P o e nx H fun r H' => clT M id i (some (.wr nx)) tr ∧ vcR P M id ops os (i + 1) (nx + 1) (adT i (some (.wr nx)) tr) K (updo e o.dst r) H'
    else if mkW M id i = true then vcW P M ops o e H fun r H' => clT M id i (some .bar) tr ∧ vcR P M id ops os (i + 1) nx (adT i (some .bar) tr) K (updo e o.dst r) H'
    else if isAl o = true then alR (ubM M id i) (alZ P e o) nx H fun r H' => clT M id i (some (.wr nx)) tr ∧ vcR P M id ops os (i + 1) (nx + 1) (adT i (some (.wr nx)) tr) K (updo e o.dst r) H'
    else if ubM M id i = true then stU P (stA o) e H fun a => clT M id i (rdT a) tr ∧ vcR P M id ops os (i + 1) nx (adT i (rdT a) tr) K (updo e o.dst .any) H
    else vcG P M true ops o e H fun r H' => clT M id i (trO e o) tr ∧ vcR P M id ops os (i + 1) nx (adT i (trO e o) tr) K (updo e o.dst r) H'

theorem clL_get {M : List Nat} {id i : Nat} {t : Tr} : ∀ {tr : List (Nat × Tr)}, clL M id i t tr → ∀ p, p ∈ tr → t.clash p.2 → depM M id i p.1 = true
  | [], _, p, hp => by cases hp
  | q :: tr, h, p, hp => by
    rcases List.mem_cons.1 hp with rfl | hp
    · exact h.1
    · exact clL_get h.2 p hp
theorem StepG.of_op {P : Program} {ops : Array Oper} {o : Oper} {e : Env} {H H' : List HO} {r : AV} {i : Nat} (hi : ops[i]? = some o) (hg : o.guard = none) (h : OpT P o (evA e) H r H') : StepG P ops i o e H r H' := by
  intro w0 Γ w a next Q hr hl hk
  unfold wpOp
  rw [hi]
  dsimp only
  rw [if_pos (by simp [Region.wanted, hg])]
  exact .inl (h w0 Γ w a next Q hr hl.opn hk)
theorem boxAt_run {P : Program} {w0 : Bs} {Γ : Gh} {H : List HO} {w : World} {e : TypeId} {x : AV} {u : Value} (hr : R w0 Γ H w) {k : Nat} (hk : H[k]? = some .dead) (hx : VR Γ x u) (hok : x.okc = true) :
    ∃ Γ' v w', (Instr.box e u).run P w = .ok v w' ∧ Gh.Le Γ Γ' ∧ VR Γ' (.ptr k 0) v ∧ R w0 Γ' (H.set k (.box x.cells)) w' := by
  obtain ⟨h1, h2⟩ := hx.okc hok
  refine ⟨Γ.addB k w.heap.size, .pointer (some ⟨w.heap.size, 0, none⟩), w.alloc (.cells u.cells e), ?_, Gh.le_addB (hr.resv k hk).1, ?_, hr.boxAt hk e h1 h2⟩
  · simp only [Instr.box, newVar, newRow, Sem.run_bind, run_newObj, Result.andThen_ok, Sem.run_pure]; rfl
  · exact .ptr (by simp [Gh.addB])
theorem isTr_vr {Γ : Gh} {x : AV} {v : Value} (h : isTr x) (hv : VR Γ x v) : VR Γ .ub v := by
  unfold isTr at h
  split at h
  · cases hv; exact .ub _
  · exact hv
  · exact h.elim
theorem al_ok {P : Program} {ops : Array Oper} {o : Oper} {e : Env} {i nx : Nat} {H : List HO} {z : AV} {u : Bool} (hi : ops[i]? = some o) (ha : isAl o = true) (hz : alZ P e o = some z) (hok : z.okc = true) (hk : H[nx]? = some .dead) (hu : u = true → ∃ b, z = .bool b) :
    StepG P ops i o e H (.ptr nx 0) (H.set nx (.box (if u = true then [.ub] else z.cells))) := by
  have key : ∃ z' : AV, z'.okc = true ∧ z'.cells = (if u = true then [.ub] else z.cells) ∧ ∀ Γ v, VR Γ z v → VR Γ z' v := by
    cases u with
    | false => exact ⟨z, hok, rfl, fun _ _ h => h⟩
    | true =>
      obtain ⟨b, rfl⟩ := hu rfl
      exact ⟨.ub, rfl, rfl, fun _ _ h => by cases h; exact .ub _⟩
  obtain ⟨z', k1, k2, k3⟩ := key
  rw [← k2]
  unfold isAl at ha
  split at ha
  · rename_i hg
    refine StepG.of_op hi hg ?_
    unfold alZ at hz
    split at ha
    · rename_i t ho
      rw [ho] at hz
      refine OpT.value fun w0 Γ w ρ hr hx => ?_
      obtain ⟨zv, hzr, hzv⟩ := zOf_run hz w
      obtain ⟨Γ', v, w', h1, h2⟩ := boxAt_run (P := P) (e := t) hr hk (k3 _ _ (hzv Γ)) k1
      refine ⟨Γ', v, w', ?_, h2⟩
      have h3 : (Instr.alloc t true (.tuple #[])).run P w = .ok v w' := by
        rw [← h1]
        simp only [Instr.alloc, Instr.box, Sem.run_bind, hzr, Result.andThen_ok]
      simp [execOp, ho, h3]
    · rename_i t x ho
      rw [ho] at hz
      cases hz
      refine OpT.value fun w0 Γ w ρ hr hx => ?_
      rw [ho] at hx
      obtain ⟨Γ', v, w', h1, h2⟩ := boxAt_run (P := P) (e := t) hr hk (k3 _ _ (hx x (by simp [Op.operands]))) k1
      exact ⟨Γ', v, w', by simp [execOp, ho, h1], h2⟩
    · cases ha
  · cases ha
theorem set_self' {H : List HO} {c : Nat} {v : HO} (h : H[c]? = some v) : H.set c v = H := by
  apply List.ext_getElem?
  intro j
  by_cases e : c = j
  · subst e
    rw [List.getElem?_set_self', h]
    rfl
  · rw [List.getElem?_set_ne e]
theorem stU_ok {P : Program} {ops : Array Oper} {o : Oper} {e : Env} {i c : Nat} {H : List HO} {t : TypeId} {a x : Operand} (hi : ops[i]? = some o) (hs : stA o = some (t, a, x)) (ha : evA e a = .ptr c 0) (hc : H[c]? = some (.box [.ub])) (hz : szOf P t = some 1) (hx : isTr (evA e x)) :
    StepG P ops i o e H .any H := by
  unfold stA at hs
  split at hs
  · rename_i hg
    split at hs
    · rename_i t' a' x' ho
      cases hs
      refine StepG.of_op hi hg (OpT.skip fun w0 Γ w ρ hr hv => ?_)
      rw [ho] at hv
      have hpa := hv a (by simp [Op.operands])
      rw [ha] at hpa
      obtain ⟨w', h1, h2⟩ := st_run (P := P) (x := .ub) hr hpa (isTr_vr hx (hv x (by simp [Op.operands]))) hc rfl hz (by simp [AV.cells])
      refine ⟨Γ, w', by simp [execOp, ho, h1], Gh.Le.refl Γ, ?_⟩
      have e1 : splice [AV.ub] 0 (AV.cells .ub) = [AV.ub] := rfl
      rw [e1, set_self' hc] at h2
      exact h2
    · cases hs
  · cases hs
theorem ld_kd {P : Program} {M : List Nat} {ops : Array Oper} {o : Oper} {e : Env} {i : Nat} {H : List HO} {t : TypeId} {a : Operand} {K : AV → List HO → Prop} (hi : ops[i]? = some o) (hg : o.guard = none) (ho : o.op = .load t a) (h : vcG P M true ops o e H K) :
    ∃ r kd, Kd.ok P ops i o e H r kd ∧ kd.tr = rdT (evA e a) ∧ (∀ H, kd.app H = H) ∧ K r H := by
  unfold vcG at h
  rw [hg] at h
  dsimp only at h
  rw [vcOp_of0 (by rw [ho]; intro xs ts; simp)] at h
  unfold vcOp0 at h
  have hp : isP o.op = true := by rw [ho]; rfl
  rw [if_pos hp] at h
  obtain ⟨h1, h2⟩ := h
  have go : ∀ H2 : List HO, psOp P o.op (evA e) H2 → pvOp P o.op (evA e) H2 = pvOp P o.op (evA e) H → StepG P ops i o e H2 (pvOp P o.op (evA e) H) H2 := by
    intro H2 g1 g2
    rw [← g2]
    exact StepG.of_op hi hg (pure_ok hp g1)
  have e1 : ∀ H2 : List HO, psOp P o.op (evA e) H2 = ldpS P t (evA e a) H2 := fun H2 => by rw [ho]; rfl
  have e2 : ∀ H2 : List HO, pvOp P o.op (evA e) H2 = ldpV P t (evA e a) H2 := fun H2 => by rw [ho]; rfl
  rw [e1] at h1
  cases hx : evA e a
  case ptr c off =>
    refine ⟨_, .read c, fun H2 hc => go H2 ?_ ?_, rfl, fun _ => rfl, h2⟩
    · rw [e1]; rw [hx] at h1 ⊢; simp only [ldpS] at h1 ⊢; rw [hc]; exact h1
    · rw [e2, e2, hx]; simp only [ldpV]; rw [hc]
  case eptr c n off =>
    refine ⟨_, .read c, fun H2 hc => go H2 ?_ ?_, rfl, fun _ => rfl, h2⟩
    · rw [e1]; rw [hx] at h1 ⊢; simp only [ldpS] at h1 ⊢; rw [hc]; exact h1
    · rw [e2, e2, hx]; simp only [ldpV]; rw [hc]
  all_goals
    refine ⟨_, .free, fun H2 => go H2 ?_ ?_, rfl, fun _ => rfl, h2⟩
    · rw [e1]; rw [hx] at h1 ⊢; exact h1
    · rw [e2, e2, hx]; rfl
theorem st_kd {P : Program} {M : List Nat} {ops : Array Oper} {o : Oper} {e : Env} {i : Nat} {H : List HO} {t : TypeId} {a x : Operand} {K : AV → List HO → Prop} (hi : ops[i]? = some o) (hg : o.guard = none) (ho : o.op = .store t a x) (h : vcG P M true ops o e H K) :
    ∃ kd, Kd.ok P ops i o e H .any kd ∧ kd.tr = wrT (evA e a) ∧ K .any (kd.app H) := by
  unfold vcG at h
  rw [hg] at h
  dsimp only at h
  rw [vcOp_of0 (by rw [ho]; intro xs ts; simp)] at h
  unfold vcOp0 at h
  rw [if_neg (by rw [ho]; simp [isP])] at h
  rw [ho] at h
  dsimp only at h
  split at h
  · rename_i c off hx
    split at h
    · rename_i cs hc
      obtain ⟨h1, h2, h3, h4⟩ := h
      refine ⟨.write c _, fun H2 he => StepG.of_op hi hg (store_ok ho hx (he.trans hc) h1 h2 h3), by rw [hx]; rfl, h4⟩
    · exact h.elim
  · rename_i c n off hx
    split at h
    · rename_i m sz cs hc
      obtain ⟨rfl, h1, h2, h3, h4⟩ := h
      refine ⟨.write c _, fun H2 he => StepG.of_op hi hg (estore_ok ho hx (he.trans hc) h1 h2 h3), by rw [hx]; rfl, h4⟩
    · exact h.elim
  · exact h.elim
theorem gen_kd {P : Program} {M : List Nat} {ops : Array Oper} {o : Oper} {e : Env} {i : Nat} {H : List HO} {K : AV → List HO → Prop} (hi : ops[i]? = some o) (h : vcG P M true ops o e H K) :
    ∃ r kd, Kd.ok P ops i o e H r kd ∧ kd.tr = (if (isRd o.op || isW o.op) = true then some .bar else none) ∧ K r (kd.app H) := by
  obtain ⟨r, H', h1, h2, h3, h4⟩ := vcG_pt h
  cases hb : (isRd o.op || isW o.op) with
  | true => exact ⟨r, .bar H', StepG.of_pt hi h1, rfl, h2⟩
  | false =>
    simp only [Bool.or_eq_false_iff] at hb
    have := h3 hb.2
    subst this
    exact ⟨r, .free, fun H2 => StepG.of_pt hi (h4 hb.1 hb.2 H2), rfl, h2⟩
theorem callN_step {P : Program} {ops : Array Oper} {o : Oper} {e : Env} {i nx : Nat} {x : Operand} {xs : Array Operand} {ts : Array TypeId} {f : FuncId} {first captured : List AV} {H : List HO} {n sz : Nat} {cs : List AV} (hi : ops[i]? = some o) (hg : o.guard = none)
    (ho : o.op = .call { callee := .value x, args := xs, argTypes := ts }) (hf : evA e x = .fn (.func f) first captured) (hc : ∀ k, AV.lts k cs = true)
    (hT : ∀ H2 : List HO, TS P f (first ++ xs.toList.map (evA e) ++ captured) H2 (pt (.mv H2.length n sz 0 n) (H2 ++ [.row n sz cs]))) (hd : H[nx]? = some .dead) : StepG P ops i o e H (.mv nx n sz 0 n) (H.set nx (.row n sz cs)) := by
  intro w0 Γ w a next Q hr hl hk
  unfold wpOp
  rw [hi]
  dsimp only
  rw [if_pos (by simp [Region.wanted, hg])]
  refine .inl (call_wp (E := evA e) ho hf (hT H) w0 Γ w a next Q hr hl.opn ?_)
  rintro Γ' v r' H' w' g1 g2 g3 ⟨rfl, rfl⟩
  have hu : Γ.upto H.length := hr.fresh
  have hlt : ∀ h : HO, h ∈ H → h.live = true → h.lt H.length = true := by
    intro h hh hlv
    obtain ⟨j, hj⟩ := List.mem_iff_getElem?.1 hh
    obtain ⟨bs, hobj, _⟩ := hr.obj
    exact (hobj j h hj hlv).2.lt hu
  have hkl := (List.getElem?_eq_some_iff.1 hd).1
  have hrv := g3.resv nx (by rw [List.getElem?_append_left hkl]; exact hd)
  refine hk (Γ'.move nx H.length) v w' ((Gh.le_cut g1 hu).trans (Gh.le_move hrv.1 hrv.2)) ?_ (g3.move hd hlt (hc _))
  cases g2 with
  | mv h hl hc ho => exact .mv (by simpa [Gh.move] using h) hl hc ho
theorem apA_step {P : Program} {ops : Array Oper} {o : Oper} {e : Env} {i nx : Nat} {H : List HO} {zs : List AV} {n sz : Nat} (hi : ops[i]? = some o) (hg : o.guard = none) (hz : ∀ k, AV.lts k (zs.flatMap AV.cells) = true)
    (hop : OpT P o (evA e) H (.sl (.tok H.length) zs) (H ++ [.spare n sz])) (hd : H[nx]? = some .dead) : StepG P ops i o e H (.sl (.tok nx) zs) (H.set nx (.spare n sz)) := by
  intro w0 Γ w a next Q hr hl hk
  unfold wpOp
  rw [hi]
  dsimp only
  rw [if_pos (by simp [Region.wanted, hg])]
  refine .inl (hop w0 Γ w a next Q hr hl.opn ?_)
  intro Γ' v w' g1 g2 g3
  have hu : Γ.upto H.length := hr.fresh
  have hlt : ∀ h : HO, h ∈ H → h.live = true → h.lt H.length = true := by
    intro h hh hlv
    obtain ⟨j, hj⟩ := List.mem_iff_getElem?.1 hh
    obtain ⟨bs, hobj, _⟩ := hr.obj
    exact (hobj j h hj hlv).2.lt hu
  have hkl := (List.getElem?_eq_some_iff.1 hd).1
  have hrv := g3.resv nx (by rw [List.getElem?_append_left hkl]; exact hd)
  have le := Gh.le_move (n := H.length) hrv.1 hrv.2
  refine hk (Γ'.move nx H.length) v w' ((Gh.le_cut g1 hu).trans le) ?_ (g3.moveS hd hlt)
  cases g2 with
  | sl hn hs h1 h hi ho hc =>
    obtain ⟨b, e1, e2⟩ := ho
    exact .sl hn hs h1 ((h.cut (hz _)).mono le) hi ⟨b, e1, by simpa [Gh.move] using e2⟩ hc
  | sl0 ho =>
    obtain ⟨b, e1, e2⟩ := ho
    exact .sl0 ⟨b, e1, by simpa [Gh.move] using e2⟩
theorem vcA_kd {P : Program} {ops : Array Oper} {o : Oper} {e : Env} {i nx : Nat} {H : List HO} {K : Tr → AV → List HO → Prop} (hi : ops[i]? = some o) (h : vcA P o e nx H K) :
    ∃ r kd t, Kd.ok P ops i o e H r kd ∧ kd.tr = some t ∧ K t r (kd.app H) := by
  unfold vcA at h
  split at h
  · rename_i dst xs ts ty pos after
    split at h
    · rename_i t t' hts
      unfold app2 at h
      split at h
      · rename_i x y hxy
        have hS : ∀ H2, appS P t t' false x.ex y H2 → OpT P ⟨dst, .call { callee := .builtin .append, args := xs, argTypes := ts }, ty, pos, after, none⟩ (evA e) H2 (appV P t false x.ex y H2) (appH P t false x.ex y H2) := fun H2 hs => by
          have := x_ok (P := P) (b := false) (o := ⟨dst, .call { callee := .builtin .append, args := xs, argTypes := ts }, ty, pos, after, none⟩) (E := evA e) (H := H2) (by unfold xS; dsimp only; rw [hts]; dsimp only; unfold app2; rw [hxy]; exact hs)
          have e1 : xV P false (.call { callee := .builtin .append, args := xs, argTypes := ts }) (evA e) H2 = appV P t false x.ex y H2 := by unfold xV; dsimp only; rw [hts]; dsimp only; unfold app2; rw [hxy]
          have e2 : xH P false (.call { callee := .builtin .append, args := xs, argTypes := ts }) (evA e) H2 = appH P t false x.ex y H2 := by unfold xH; dsimp only; rw [hts]; dsimp only; unfold app2; rw [hxy]
          rw [← e1, ← e2]
          exact this
        obtain ⟨hd, h⟩ := h
        split at h
        · rename_i zs own ys hx
          obtain ⟨hs, h1, h2⟩ := h
          rw [hx] at hS
          by_cases h0 : ys.length = 0
          · have hys : ys = [] := List.eq_nil_of_length_eq_zero h0
            refine ⟨.sl .exact zs, .write nx .dead, .wr nx, fun H2 he => ?_, rfl, by show K _ _ (H.set nx .dead); rw [set_self' hd]; exact h1 h0⟩
            rw [set_self' (he.trans hd)]
            have := hS H2 hs
            subst hys
            simp only [appV, appH, appOwn, appHo, List.length_nil, if_true, List.append_nil, Bool.false_eq_true, if_false] at this
            exact StepG.of_op hi rfl this
          · obtain ⟨h3, h4⟩ := h2 h0
            refine ⟨.sl (.tok nx) (zs ++ ys), .write nx _, .wr nx, fun H2 he => ?_, rfl, h4⟩
            have := hS H2 hs
            simp only [appV, appH, appOwn, appHo, if_neg h0, Bool.false_eq_true, if_false] at this
            exact apA_step hi rfl h3 this (he.trans hd)
        · rename_i k zs own ys hx
          obtain ⟨hs, h1⟩ := h
          rw [hx] at hS
          refine ⟨.sl (.tok k) (zs ++ ys), .write k _, .wr k, fun H2 he => ?_, rfl, h1⟩
          have hs2 : appS P t t' false (.sl (.tok k) zs) (.sl own ys) H2 := by
            simp only [appS, appOk] at hs ⊢
            rw [he]
            exact hs
          have := hS H2 hs2
          simp only [appV, appH, appOwn, appHo] at this
          exact StepG.of_op hi rfl this
        · exact h.elim
      · exact h.elim
    · exact h.elim
  · exact h.elim
theorem vcN_kd {P : Program} {ops : Array Oper} {o : Oper} {e : Env} {i nx : Nat} {H : List HO} {K : AV → List HO → Prop} (hi : ops[i]? = some o) (h : vcN P o e nx H K) :
    ∃ r kd, Kd.ok P ops i o e H r kd ∧ kd.tr = some (.wr nx) ∧ K r (kd.app H) := by
  unfold vcN at h
  split at h
  · rename_i x xs _ _ _ _ _
    unfold callN at h
    split at h
    · rename_i f first captured hf
      obtain ⟨hd, h⟩ := h
      rcases h with ⟨n, sz, cs, h1, h2, h3⟩ | ⟨r, h2, h3⟩
      · exact ⟨_, .write nx (.row n sz cs), fun H2 he => callN_step hi rfl rfl hf h1 h2 (he.trans hd), rfl, h3⟩
      · refine ⟨r, .write nx .dead, fun H2 he => ?_, rfl, by show K r (H.set nx .dead); rw [set_self' hd]; exact h3⟩
        rw [set_self' (he.trans hd)]
        intro w0 Γ w a next Q hr hl hk
        unfold wpOp
        rw [hi]
        dsimp only
        rw [if_pos (by simp [Region.wanted])]
        refine .inl (call_wp (E := evA e) rfl hf (h2 H2) w0 Γ w a next Q hr hl.opn ?_)
        rintro Γ' v r' H' w' g1 g2 g3 ⟨rfl, rfl⟩
        exact hk Γ' v w' g1 g2 g3
    · exact h.elim
  · exact h.elim
theorem vcR_one {P : Program} {M : List Nat} {id : Nat} {ops : Array Oper} {o : Oper} {os : List Oper} {i nx : Nat} {tr : List (Nat × Tr)} {K : Env → List HO → Prop} {e : Env} {H : List HO}
    (hi : ops[i]? = some o) (h : vcR P M id ops (o :: os) i nx tr K e H) : ∃ r kd nx', Kd.ok P ops i o e H r kd ∧ clT M id i kd.tr tr ∧ vcR P M id ops os (i + 1) nx' (adT i kd.tr tr) K (updo e o.dst r) (kd.app H) := by
  simp only [vcR] at h
  split at h
  · obtain ⟨r, kd, t, k1, k2, k3, k4⟩ := vcA_kd hi h
    rw [← k2] at k3 k4
    exact ⟨r, kd, nx + 1, k1, k3, k4⟩
  split at h
  · obtain ⟨r, kd, k1, k2, k3, k4⟩ := vcN_kd hi h
    rw [← k2] at k3 k4
    exact ⟨r, kd, nx + 1, k1, k3, k4⟩
  split at h
  · obtain ⟨r, H', h1, h2, h3⟩ := vcW_pt (M := M) (ops := ops) h
    exact ⟨r, .bar H', nx, StepG.of_pt hi h1, h2, h3⟩
  · split at h
    · rename_i ha
      unfold alR at h
      split at h
      · rename_i z hz
        obtain ⟨h1, h2, h3, h4, h5⟩ := h
        exact ⟨_, .write nx _, nx + 1, fun H2 he => al_ok hi ha hz h1 (he.trans h2) h3, h4, h5⟩
      · exact h.elim
    · split at h
      · unfold stU at h
        split at h
        · rename_i t a x hs
          obtain ⟨h1, h2, h3, h4, h5⟩ := h
          split at h1
          · rename_i c hx
            rw [hx] at h4 h5
            exact ⟨.any, .read c, nx, fun H2 he => stU_ok hi hs hx (he.trans h1) h2 h3, h4, h5⟩
          · exact h1.elim
        · exact h.elim
      · unfold trO at h
        split at h
        · rename_i hg
          split at h
          · rename_i t a ho
            obtain ⟨r, kd, k1, k2, k3, k4, k5⟩ := ld_kd hi hg ho h
            rw [← k2] at k4 k5
            exact ⟨r, kd, nx, k1, k4, by rw [k3]; exact k5⟩
          · rename_i t a x ho
            obtain ⟨kd, k1, k2, k4, k5⟩ := st_kd hi hg ho h
            rw [← k2] at k4 k5
            have : o.dst = o.dst := rfl
            exact ⟨.any, kd, nx, k1, k4, k5⟩
          · obtain ⟨r, kd, k1, k2, k4, k5⟩ := gen_kd hi h
            rw [← k2] at k4 k5
            exact ⟨r, kd, nx, k1, k4, k5⟩
        · obtain ⟨r, kd, k1, k2, k4, k5⟩ := gen_kd hi h
          rw [← k2] at k4 k5
          exact ⟨r, kd, nx, k1, k4, k5⟩
theorem vcR_chain {P : Program} {M : List Nat} {id : Nat} {ops : Array Oper} {K : Env → List HO → Prop} : ∀ (n i nx : Nat) (tr : List (Nat × Tr)) (e : Env) (H : List HO), i + n = ops.size → vcR P M id ops (ops.toList.drop i) i nx tr K e H →
    ∃ (X : Nat → AV) (kd : Nat → Kd) (Hs : Nat → List HO) (E : Nat → Env), E i = e ∧ Hs i = H ∧ K (E (i + n)) (Hs (i + n)) ∧ (∀ j, i ≤ j → j < i + n → E (j + 1) = updo (E j) (dstOf ops j) (X j) ∧ Hs (j + 1) = (kd j).app (Hs j) ∧
      (∀ o, ops[j]? = some o → (kd j).ok P ops j o (E j) (Hs j) (X j)) ∧ (∀ a, (kd j).tr = some a → (∀ p, p ∈ tr → a.clash p.2 → depM M id j p.1 = true) ∧ ∀ k, i ≤ k → k < j → ∀ b, (kd k).tr = some b → a.clash b → depM M id j k = true))
  | 0, i, nx, tr, e, H, hn, h => by
    rw [List.drop_of_length_le (by simp; omega)] at h
    exact ⟨fun _ => .any, fun _ => .free, fun _ => H, fun _ => e, rfl, rfl, h, fun j h1 h2 => by omega⟩
  | n + 1, i, nx, tr, e, H, hn, h => by
    have hlt : i < ops.toList.length := by simp; omega
    rw [List.drop_eq_getElem_cons hlt] at h
    have hi : ops[i]? = some ops.toList[i] := by simp at hlt; simp [hlt]
    generalize ho : ops.toList[i] = o at *
    obtain ⟨r, kd0, nx', h1, h2, h3⟩ := vcR_one hi h
    obtain ⟨X, kd, Hs, E, e1, e2, e3, e4⟩ := vcR_chain n (i + 1) nx' _ _ _ (by omega) h3
    refine ⟨fun j => if j = i then r else X j, fun j => if j = i then kd0 else kd j, fun j => if j = i then H else Hs j, fun j => if j = i then e else E j, if_pos rfl, if_pos rfl, ?_, ?_⟩
    · dsimp only
      rw [if_neg (by omega), if_neg (by omega), show i + (n + 1) = i + 1 + n by omega]
      exact e3
    · intro j hj1 hj2
      dsimp only
      by_cases hji : j = i
      · subst hji
        simp only [if_true]
        rw [if_neg (by omega), if_neg (by omega)]
        refine ⟨by rw [e1]; simp [dstOf, hi], e2, ?_, fun a ha => ⟨?_, fun k k1 k2 => by omega⟩⟩
        · intro o' ho'
          rw [hi] at ho'
          cases ho'
          exact h1
        · rw [ha] at h2
          exact clL_get h2
      · simp only [if_neg hji, if_neg (show j + 1 ≠ i by omega)]
        obtain ⟨g1, g2, g3, g4⟩ := e4 j (by omega) (by omega)
        refine ⟨g1, g2, g3, fun a ha => ⟨fun p hp => (g4 a ha).1 p ?_, fun k k1 k2 b hb hc => ?_⟩⟩
        · cases ht : kd0.tr with
          | none => exact hp
          | some t => exact List.mem_cons_of_mem _ hp
        · by_cases hki : k = i
          · subst hki
            rw [if_pos rfl] at hb
            refine (g4 a ha).1 (k, b) ?_ hc
            rw [hb]
            exact List.mem_cons_self ..
          · rw [if_neg hki] at hb
            exact (g4 a ha).2 k (by omega) k2 b hb hc
/-- the places that the region keeps for its own variables -/
def deads (M : List Nat) (id : Nat) : Nat → List Oper → List HO
  | _, [] => []
  | i, o :: os => if (isAl o || newM M id i || apM M id i) = true then .dead :: deads M id (i + 1) os else deads M id (i + 1) os
theorem deads_eq {M : List Nat} {id : Nat} : ∀ (l : List Oper) (i : Nat), ∃ k, deads M id i l = List.replicate k .dead
  | [], _ => ⟨0, rfl⟩
  | o :: os, i => by
    obtain ⟨k, hk⟩ := deads_eq (M := M) (id := id) os (i + 1)
    simp only [deads]
    split
    · exact ⟨k + 1, by rw [hk]; rfl⟩
    · exact ⟨k, hk⟩
theorem drawR_wp {P : Program} {M : List Nat} {id : Nat} {N : Nat} {ops : Array Oper} {K : Env → List HO → Prop} {e : Env} {H : List HO} (hmix : P.follows .mixedOrders = true) (hd : drawOkE ops = true) (hM : drawOkM M id ops = true)
    (h : vcR P M id ops ops.toList 0 H.length [] K e (H ++ deads M id 0 ops.toList)) {w0 : Bs} {Γ : Gh} {w : World} {a : Act} (hr : R w0 Γ H w) (he : RE N Γ e a) {Q : Exit → Act → World → Prop}
    (hops : ∀ o, o ∈ ops → operOk N ops o = true)
    (hQ : ∀ Γ' e' H' a' w', Gh.Le Γ Γ' → R w0 Γ' H' w' → RE N Γ' e' a' → K e' H' → Q .normal a' w') : (Code.region id ops true).wp P Q a w := by
  obtain ⟨X, kd, Hs, E, hE0, hH0, hK, hch⟩ := vcR_chain (P := P) (M := M) (id := id) (ops := ops) (K := K) ops.size 0 H.length [] e _ (by omega) (by simpa using h)
  simp only [Nat.zero_add] at hK hch
  have hE : ∀ i, i ≤ ops.size → E i = envI ops e X i := by
    intro i
    induction i with
    | zero => intro _; exact hE0
    | succ i ih => intro hi; rw [(hch i (by omega) (by omega)).1, ih (by omega)]; rfl
  have hH : ∀ i, i ≤ ops.size → Hs i = ful kd (H ++ deads M id 0 ops.toList) i := by
    intro i
    induction i with
    | zero => intro _; exact hH0
    | succ i ih => intro hi; rw [(hch i (by omega) (by omega)).2.1, ih (by omega)]; rfl
  have hres : R w0 Γ (H ++ deads M id 0 ops.toList) w := by
    obtain ⟨k, hk⟩ := deads_eq (M := M) (id := id) ops.toList 0
    rw [hk]; exact hr.reserve k
  refine draw_kd (M := M) (K := K) hmix hd hM X kd ?_ ?_ ?_ hres he hops hQ
  · rw [← hE _ (Nat.le_refl _), ← hH _ (Nat.le_refl _)]; exact hK
  · intro i o hi
    have hlt := (Array.getElem?_eq_some_iff.1 hi).1
    rw [← hE i (by omega), ← hH i (by omega)]
    exact (hch i (by omega) hlt).2.2.1 o hi
  · intro j k hkj hj x y hx hy hc
    exact ((hch j (by omega) hj).2.2.2 x hx).2 k (by omega) hkj y hy hc

end Go.Proofs.YtjplcdeaedflpaaGreatDoor.PL

namespace Go.Proofs.YtjplcdeaedflpaaGreatDoor.PL
open Go.RowKit

/-! ### code -/
def codeOk (M : List Nat) (N : Nat) : Code → Bool
  | .region id ops draw => ops.all (operOk N ops) && (!draw || if M.contains (id + 300000) then drawOkE ops && drawOkM M id ops else if M.contains (id + 100000) then drawOkL M id ops && drawOkM M id ops else drawOk ops)
  | .seq a b => codeOk M N a && codeOk M N b
  | .cond c t f => opnOk N c && codeOk M N t && codeOk M N f
  | .block _ c => codeOk M N c
  | .loop c => codeOk M N c
  | .scope c => codeOk M N c
  | _ => true

def Ex.to : Ex → Exit
  | .normal => .normal
  | .exit i => .exit i
  | .ret => .ret
  | .goto l => .goto l

def QR (N : Nat) (w0 : Bs) (Γ : Gh) (Q : Ex → Env → List HO → Prop) : Exit → Act → World → Prop :=
  fun x a w => ∃ (X : Ex) (Γ' : Gh) (e : Env) (H : List HO), X.to = x ∧ Gh.Le Γ Γ' ∧ R w0 Γ' H w ∧ RE N Γ' e a ∧ Q X e H

def hasGoto : Code → Bool
  | .goto _ => true
  | .seq a b => hasGoto a || hasGoto b
  | .cond _ a b => hasGoto a || hasGoto b
  | .block _ c => hasGoto c
  | .loop c => hasGoto c
  | .scope c => hasGoto c
  | .rangeFunc .. => true
  | _ => false
/-- A scope with jumps in it: what is shown of its runs. -/
def SC (P : Program) (M : List Nat) (c : Code) (Q : Ex → Env → List HO → Prop) (e : Env) (H : List HO) : Prop :=
  ∀ N, codeOk M N c = true → ∀ (w0 : Bs) (Γ : Gh) (a : Act) (w : World), R w0 Γ H w → RE N Γ e a → (Code.scope c).wp P (QR N w0 Γ Q) a w
/-- no jump leaves -/
def ngK (Q : Ex → Env → List HO → Prop) : Ex → Env → List HO → Prop := fun x e H => match x with | .goto _ => False | x => Q x e H

def vc (P : Program) (M : List Nat) : Code → (Ex → Env → List HO → Prop) → Env → List HO → Prop
  | .skip, Q, e, H => Q .normal e H
  | .region id ops draw, Q, e, H => if (draw && M.contains (id + 300000)) = true then vcR P M id ops ops.toList 0 H.length [] (fun e H => Q .normal e H) e (H ++ deads M id 0 ops.toList) else if (draw && M.contains (id + 100000)) = true then vcD P M id ops ops.toList 0 (fun e H => Q .normal e H) e H [] [] else vcOps P M draw ops ops.toList (fun e H => Q .normal e H) e H
  | .seq a b, Q, e, H => vc P M a (fun x e H => match x with | .normal => vc P M b Q e H | x => Q x e H) e H
  | .cond c t f, Q, e, H => match evA e c with | .bool b => (b = true → vc P M t Q e H) ∧ (b = false → vc P M f Q e H) | .ub => vc P M t Q e H ∧ vc P M f Q e H | _ => False
  | .block id c, Q, e, H => vc P M c (fun x e H => match x with | .exit i => if i = id then Q .normal e H else Q (.exit i) e H | x => Q x e H) e H
  | .loop c, Q, e, H => ∃ J : Nat → Env → List HO → Prop, (∃ n, J n e H) ∧ ∀ n e H, J n e H → vc P M c (fun x e' H' => match x with | .normal => ∃ m, m < n ∧ J m e' H' | x => Q x e' H') e H
  | .exit id, Q, e, H => Q (.exit id) e H
  | .ret, Q, e, H => Q .ret e H
  | .label _, Q, e, H => Q .normal e H
  | .goto l, Q, e, H => Q (.goto l) e H
  | .scope c, Q, e, H => if hasGoto c = true then SC P M c Q e H else vc P M c (ngK Q) e H
  | _, _, _, _ => False

theorem QR.mk {N : Nat} {w0 : Bs} {Γ Γ' : Gh} {Q : Ex → Env → List HO → Prop} {X : Ex} {e : Env} {H : List HO} {a : Act} {w : World} (le : Gh.Le Γ Γ') (r : R w0 Γ' H w) (he : RE N Γ' e a) (h : Q X e H) : QR N w0 Γ Q X.to a w :=
  ⟨X, Γ', e, H, rfl, le, r, he, h⟩

theorem wp_loop_ix {P : Program} {c : Code} {Q : Exit → Act → World → Prop} (J : Nat → Act → World → Prop) {n : Nat} {a : Act} {w : World} (h₀ : J n a w)
    (round : ∀ n a w, J n a w → c.wp P (Exit.then (fun a' w' => ∃ m, m < n ∧ J m a' w') Q) a w) : (Code.loop c).wp P Q a w := by
  intro b k cs
  have key : ∀ n a w, J n a w → ∃ e a' w', Q e a' w' ∧ Arrives P (lone (b.at a (.code c :: .inLoop c :: k)) cs w) b k cs e a' w' := by
    intro n
    induction n using Nat.strongRecOn with
    | _ n ih =>
      intro a w hI
      obtain ⟨e, a₁, w₁, hq, harr⟩ := round n a w hI b (.inLoop c :: k) cs
      cases e with
      | normal =>
        obtain ⟨m, hlt, hI₁⟩ := hq
        obtain ⟨e₂, a₂, w₂, hq₂, harr₂⟩ := ih m hlt a₁ w₁ hI₁
        exact ⟨e₂, a₂, w₂, hq₂, .of_steps (Steps.trans harr (.one step_inLoop)) harr₂⟩
      | exit id => exact ⟨_, a₁, w₁, hq, .pass (x := .inLoop c) rfl (fun _ _ => .inl (by simp)) harr⟩
      | goto l => exact ⟨_, a₁, w₁, hq, .pass (x := .inLoop c) rfl (fun _ _ => .inl (by simp)) harr⟩
      | ret => exact ⟨_, a₁, w₁, hq, .pass (x := .inLoop c) rfl (fun _ _ => .inl (by simp)) harr⟩
      | panic ch => exact ⟨_, a₁, w₁, hq, .pass (x := .inLoop c) rfl (fun _ _ => .inl (by simp)) harr⟩
      | outgrown => exact ⟨_, a₁, w₁, hq, .pass (x := .inLoop c) rfl (fun _ _ => .inl (by simp)) harr⟩
  obtain ⟨e, a', w', hq, harr⟩ := key n a w h₀
  exact ⟨e, a', w', hq, .of_steps (.one step_loop) harr⟩

theorem vcOps_wp {P : Program} {M : List Nat} {N : Nat} {ops : Array Oper} {K : Env → List HO → Prop} (hok : ∀ o, o ∈ ops → operOk N ops o = true) {w0 : Bs} {Γ : Gh} {Q : Exit → Act → World → Prop}
    (hQ : ∀ Γ' e' H' a' w', Gh.Le Γ Γ' → R w0 Γ' H' w' → RE N Γ' e' a' → K e' H' → Q .normal a' w') :
    ∀ (n i : Nat) (e : Env) (H : List HO) (Γ' : Gh) (a : Act) (w : World), i + n = ops.size → vcOps P M false ops (ops.toList.drop i) K e H → Gh.Le Γ Γ' → R w0 Γ' H w → RE N Γ' e a →
      wpOps P ops Q (List.range' i n) a w
  | 0, i, e, H, Γ', a, w, hn, h, le, hr, he => by
    rw [List.drop_of_length_le (by simp; omega)] at h
    exact hQ Γ' e H a w le hr he h
  | n + 1, i, e, H, Γ', a, w, hn, h, le, hr, he => by
    have hlt : i < ops.toList.length := by simp; omega
    rw [List.drop_eq_getElem_cons hlt] at h
    simp only [vcOps] at h
    have hlt' : i < ops.size := by omega
    have hi : ops[i]? = some ops.toList[i] := by simp [hlt']
    have hok' := hok ops.toList[i] (by simp)
    rw [List.range'_succ, wpOps_cons]
    refine vcG_wp' hi h w0 Γ' w a _ Q hr (he.looks hok') ?_
    intro Γ'' v r H' w' g1 g2 g3 g4
    exact vcOps_wp hok hQ n (i + 1) _ H' Γ'' _ w' (by omega) g4 (le.trans g1) g3 ((he.mono g1).put g2)

theorem vc_wp {P : Program} {M : List Nat} {N : Nat} (hmix : P.follows .mixedOrders = true) : ∀ (c : Code) (Q : Ex → Env → List HO → Prop) (e : Env) (H : List HO), codeOk M N c = true → vc P M c Q e H →
    ∀ (w0 : Bs) (Γ : Gh) (a : Act) (w : World), R w0 Γ H w → RE N Γ e a → c.wp P (QR N w0 Γ Q) a w
  | .skip, Q, e, H, hok, h, w0, Γ, a, w, hr, he => wp_skip (QR.mk (X := .normal) (Gh.Le.refl Γ) hr he h)
  | .label _, Q, e, H, hok, h, w0, Γ, a, w, hr, he => wp_label (QR.mk (X := .normal) (Gh.Le.refl Γ) hr he h)
  | .exit id, Q, e, H, hok, h, w0, Γ, a, w, hr, he => wp_exit (QR.mk (X := .exit id) (Gh.Le.refl Γ) hr he h)
  | .ret, Q, e, H, hok, h, w0, Γ, a, w, hr, he => wp_ret (QR.mk (X := .ret) (Gh.Le.refl Γ) hr he h)
  | .region id ops draw, Q, e, H, hok, h, w0, Γ, a, w, hr, he => by
    simp only [codeOk, Bool.and_eq_true] at hok
    have hops : ∀ o, o ∈ ops → operOk N ops o = true := fun o ho => (Array.all_eq_true_iff_forall_mem.1 hok.1) o ho
    simp only [vc] at h
    cases draw with
    | true =>
      cases hM3 : M.contains (id + 300000) with
      | true =>
        rw [hM3] at h hok
        simp only [Bool.and_self, if_true] at h
        have hok2 : drawOkE ops = true ∧ drawOkM M id ops = true := by simpa using hok.2
        exact drawR_wp hmix hok2.1 hok2.2 h hr he hops fun Γ' e' H' a' w' g1 g2 g3 g4 => QR.mk (X := .normal) g1 g2 g3 g4
      | false =>
      rw [hM3] at h hok
      simp only [Bool.and_false, Bool.false_eq_true, if_false] at h
      simp only [Bool.false_eq_true, if_false] at hok
      cases hM : M.contains (id + 100000) with
      | true =>
        rw [hM] at h hok
        simp only [Bool.and_self, if_true] at h
        have hok2 : drawOkL M id ops = true ∧ drawOkM M id ops = true := by simpa using hok.2
        exact drawL_wp hmix hok2.1 hok2.2 h hr he hops fun Γ' e' H' a' w' g1 g2 g3 g4 => QR.mk (X := .normal) g1 g2 g3 g4
      | false =>
        rw [hM] at h hok
        simp only [Bool.and_false, Bool.false_eq_true, if_false] at h
        exact draw_wp hmix (by simpa using hok.2) h hr he hops fun Γ' e' H' a' w' g1 g2 g3 g4 => QR.mk (X := .normal) g1 g2 g3 g4
    | false =>
      simp only [Bool.false_and, Bool.false_eq_true, if_false] at h
      refine wp_region ?_
      rw [List.range_eq_range']
      exact vcOps_wp hops (fun Γ' e' H' a' w' g1 g2 g3 g4 => QR.mk (X := .normal) g1 g2 g3 g4) ops.size 0 e H Γ a w (by omega) (by simpa using h) (Gh.Le.refl Γ) hr he
  | .seq x y, Q, e, H, hok, h, w0, Γ, a, w, hr, he => by
    simp only [codeOk, Bool.and_eq_true] at hok
    refine wp_seq (wp_mono (vc_wp hmix x _ e H hok.1 h w0 Γ a w hr he) ?_)
    rintro ex a' w' ⟨X, Γ', e', H', rfl, g1, g2, g3, g4⟩
    cases X with
    | normal =>
      refine wp_mono (vc_wp hmix y Q e' H' hok.2 g4 w0 Γ' a' w' g2 g3) ?_
      rintro ex a2 w2 ⟨X, Γ2, e2, H2, rfl, k1, k2, k3, k4⟩
      exact QR.mk (g1.trans k1) k2 k3 k4
    | exit i => exact QR.mk (X := .exit i) g1 g2 g3 g4
    | ret => exact QR.mk (X := .ret) g1 g2 g3 g4
    | goto l => exact QR.mk (X := .goto l) g1 g2 g3 g4
  | .cond c t f, Q, e, H, hok, h, w0, Γ, a, w, hr, he => by
    simp only [codeOk, Bool.and_eq_true] at hok
    simp only [vc] at h
    have hv := he.eval hok.1.1
    split at h
    · rename_i b hb
      rw [hb] at hv
      generalize hu : a.eval c = u at hv
      cases hv
      cases b with
      | true => exact wp_cond hu (vc_wp hmix t Q e H hok.1.2 (h.1 rfl) w0 Γ a w hr he)
      | false => exact wp_cond hu (vc_wp hmix f Q e H hok.2 (h.2 rfl) w0 Γ a w hr he)
    · rename_i hb
      rw [hb] at hv
      generalize hu : a.eval c = u at hv
      cases hv with
      | ub b =>
        cases b with
        | true => exact wp_cond hu (vc_wp hmix t Q e H hok.1.2 h.1 w0 Γ a w hr he)
        | false => exact wp_cond hu (vc_wp hmix f Q e H hok.2 h.2 w0 Γ a w hr he)
    · exact h.elim
  | .scope c, Q, e, H, hok, h, w0, Γ, a, w, hr, he => by
    simp only [vc] at h
    split at h
    · exact h N hok w0 Γ a w hr he
    refine wp_scope_straight (wp_mono (vc_wp hmix c _ e H hok h w0 Γ a w hr he) ?_)
    rintro ex a' w' ⟨X, Γ', e', H', rfl, g1, g2, g3, g4⟩
    cases X with
    | normal => exact QR.mk (X := .normal) g1 g2 g3 g4
    | exit i => exact QR.mk (X := .exit i) g1 g2 g3 g4
    | ret => exact QR.mk (X := .ret) g1 g2 g3 g4
    | goto l => exact (show False from g4).elim
  | .block id c, Q, e, H, hok, h, w0, Γ, a, w, hr, he => by
    refine wp_block (wp_mono (vc_wp hmix c _ e H hok h w0 Γ a w hr he) ?_)
    rintro ex a' w' ⟨X, Γ', e', H', rfl, g1, g2, g3, g4⟩
    cases X with
    | normal => exact QR.mk (X := .normal) g1 g2 g3 g4
    | exit i =>
      simp only [Ex.to, Exit.inBlock]
      dsimp only at g4
      split at g4
      · rename_i hi; rw [if_pos hi]; exact QR.mk (X := .normal) g1 g2 g3 g4
      · rename_i hi; rw [if_neg hi]; exact QR.mk (X := .exit i) g1 g2 g3 g4
    | ret => exact QR.mk (X := .ret) g1 g2 g3 g4
    | goto l => exact QR.mk (X := .goto l) g1 g2 g3 g4
  | .loop c, Q, e, H, hok, h, w0, Γ, a, w, hr, he => by
    obtain ⟨J, ⟨n, hJ⟩, hround⟩ := h
    refine wp_loop_ix (fun n a w => ∃ Γ' e H, Gh.Le Γ Γ' ∧ R w0 Γ' H w ∧ RE N Γ' e a ∧ J n e H) (n := n) ⟨Γ, e, H, Gh.Le.refl Γ, hr, he, hJ⟩ ?_
    rintro n a w ⟨Γ', e, H, g1, g2, g3, g4⟩
    refine wp_mono (vc_wp hmix c _ e H hok (hround n e H g4) w0 Γ' a w g2 g3) ?_
    rintro ex a' w' ⟨X, Γ2, e', H', rfl, k1, k2, k3, k4⟩
    cases X with
    | normal =>
      obtain ⟨m, hm, hJm⟩ := k4
      exact ⟨m, hm, Γ2, e', H', g1.trans k1, k2, k3, hJm⟩
    | exit i => exact QR.mk (X := .exit i) (g1.trans k1) k2 k3 k4
    | ret => exact QR.mk (X := .ret) (g1.trans k1) k2 k3 k4
    | goto l => exact QR.mk (X := .goto l) (g1.trans k1) k2 k3 k4
  | .rangeFunc .., Q, e, H, hok, h, _, _, _, _, _, _ => h.elim
  | .goto l, Q, e, H, hok, h, w0, Γ, a, w, hr, he => wp_goto (QR.mk (X := .goto l) (Gh.Le.refl Γ) hr he h)
  | .refuse _, Q, e, H, hok, h, _, _, _, _, _, _ => h.elim

/-! ### jumps back -/
theorem wp_scope_ix {P : Program} {c rest : Code} {Q : Exit → Act → World → Prop} (l : Nat) (J : Nat → Act → World → Prop) {a : Act} {w : World} (hf : findLabel c l = some rest)
    (first : c.wp P (Exit.jump l (fun a w => ∃ n, J n a w) Q) a w)
    (pass : ∀ n a w, J n a w → rest.wp P (Exit.jump l (fun a' w' => ∃ m, m < n ∧ J m a' w') Q) a w) : (Code.scope c).wp P Q a w := by
  intro b k cs
  have hg : gotoIn l (.inScope c :: k) = some (.code rest :: .inScope c :: k) := by simp [gotoIn, hf]
  have key : ∀ n a w, J n a w → ∃ e a' w', Q e a' w' ∧ Arrives P (lone (b.at a (.code rest :: .inScope c :: k)) cs w) b k cs e a' w' := by
    intro n
    induction n using Nat.strongRecOn with
    | _ n ih =>
      intro a w hJ
      obtain ⟨e, a₁, w₁, hq, harr⟩ := pass n a w hJ b (.inScope c :: k) cs
      cases e with
      | normal => exact ⟨.normal, a₁, w₁, hq, Steps.trans harr (.one step_inScope)⟩
      | exit id => exact ⟨.exit id, a₁, w₁, hq, fun k' hk => harr k' (by simp [exitTo, hk])⟩
      | goto l' =>
        obtain ⟨rfl, m, hlt, hJ'⟩ := hq
        obtain ⟨e₂, a₂, w₂, hq₂, harr₂⟩ := ih m hlt a₁ w₁ hJ'
        exact ⟨e₂, a₂, w₂, hq₂, .of_steps (harr _ hg) harr₂⟩
      | ret => exact ⟨_, a₁, w₁, hq, harr⟩
      | panic ch => exact ⟨_, a₁, w₁, hq, harr⟩
      | outgrown => exact ⟨_, a₁, w₁, hq, harr⟩
  obtain ⟨e, a₁, w₁, hq, harr⟩ := first b (.inScope c :: k) cs
  cases e with
  | normal => exact ⟨.normal, a₁, w₁, hq, .head step_scope (Steps.trans harr (.one step_inScope))⟩
  | exit id => exact ⟨.exit id, a₁, w₁, hq, fun k' hk => .head step_scope (harr k' (by simp [exitTo, hk]))⟩
  | goto l' =>
    obtain ⟨rfl, n, hJ'⟩ := hq
    obtain ⟨e₂, a₂, w₂, hq₂, harr₂⟩ := key n a₁ w₁ hJ'
    exact ⟨e₂, a₂, w₂, hq₂, .of_steps (.head step_scope (harr _ hg)) harr₂⟩
  | ret => exact ⟨_, a₁, w₁, hq, .of_steps (.one step_scope) harr⟩
  | panic ch => exact ⟨_, a₁, w₁, hq, .of_steps (.one step_scope) harr⟩
  | outgrown => exact ⟨_, a₁, w₁, hq, .of_steps (.one step_scope) harr⟩
/-- what stands ahead of a label -/
def preWp (P : Program) : Code → Nat → (Act → World → Prop) → (Exit → Act → World → Prop) → Act → World → Prop
  | .seq x y, l, K, Q => if (findLabel x l).isSome = true then preWp P x l K Q else x.wp P (Exit.then (preWp P y l K Q) Q)
  | _, _, K, _ => K
/-- what stands behind it -/
def restWp (P : Program) : Code → Nat → (Exit → Act → World → Prop) → Act → World → Prop
  | .seq x y, l, Q => if (findLabel x l).isSome = true then restWp P x l (Exit.then (y.wp P Q) Q) else restWp P y l Q
  | _, _, Q => Q .normal
theorem preWp_mono {P : Program} {l : Nat} : ∀ {c : Code} {K K' : Act → World → Prop} {Q Q' : Exit → Act → World → Prop} {a : Act} {w : World}, preWp P c l K Q a w → (∀ a w, K a w → K' a w) → (∀ e a w, e ≠ .normal → Q e a w → Q' e a w) → preWp P c l K' Q' a w
  | .seq x y, K, K', Q, Q', a, w, h, hk, hq => by
    simp only [preWp] at h ⊢
    split at h
    · rename_i hx
      rw [if_pos hx]
      exact preWp_mono h hk hq
    · rename_i hx
      rw [if_neg hx]
      refine wp_mono h ?_
      intro e a w h
      cases e with
      | normal => exact preWp_mono (c := y) h hk hq
      | _ => exact hq _ _ _ (by simp) h
  | .skip, _, _, _, _, a, w, h, hk, hq => hk a w h
  | .region .., _, _, _, _, a, w, h, hk, hq => hk a w h
  | .cond .., _, _, _, _, a, w, h, hk, hq => hk a w h
  | .block .., _, _, _, _, a, w, h, hk, hq => hk a w h
  | .loop .., _, _, _, _, a, w, h, hk, hq => hk a w h
  | .rangeFunc .., _, _, _, _, a, w, h, hk, hq => hk a w h
  | .exit .., _, _, _, _, a, w, h, hk, hq => hk a w h
  | .scope .., _, _, _, _, a, w, h, hk, hq => hk a w h
  | .label .., _, _, _, _, a, w, h, hk, hq => hk a w h
  | .goto .., _, _, _, _, a, w, h, hk, hq => hk a w h
  | .ret, _, _, _, _, a, w, h, hk, hq => hk a w h
  | .refuse .., _, _, _, _, a, w, h, hk, hq => hk a w h
theorem restWp_mono {P : Program} {l : Nat} : ∀ {c : Code} {Q Q' : Exit → Act → World → Prop} {a : Act} {w : World}, restWp P c l Q a w → (∀ e a w, Q e a w → Q' e a w) → restWp P c l Q' a w
  | .seq x y, Q, Q', a, w, h, hq => by
    simp only [restWp] at h ⊢
    split at h
    · rename_i hx
      rw [if_pos hx]
      refine restWp_mono h ?_
      intro e a w h
      cases e with
      | normal => exact wp_mono h hq
      | _ => exact hq _ _ _ h
    · rename_i hx
      rw [if_neg hx]
      exact restWp_mono h hq
  | .skip, _, _, a, w, h, hq => hq _ a w h
  | .region .., _, _, a, w, h, hq => hq _ a w h
  | .cond .., _, _, a, w, h, hq => hq _ a w h
  | .block .., _, _, a, w, h, hq => hq _ a w h
  | .loop .., _, _, a, w, h, hq => hq _ a w h
  | .rangeFunc .., _, _, a, w, h, hq => hq _ a w h
  | .exit .., _, _, a, w, h, hq => hq _ a w h
  | .scope .., _, _, a, w, h, hq => hq _ a w h
  | .label .., _, _, a, w, h, hq => hq _ a w h
  | .goto .., _, _, a, w, h, hq => hq _ a w h
  | .ret, _, _, a, w, h, hq => hq _ a w h
  | .refuse .., _, _, a, w, h, hq => hq _ a w h
theorem wp_of_pre {P : Program} {l : Nat} : ∀ {c rest : Code} {Q : Exit → Act → World → Prop} {a : Act} {w : World}, findLabel c l = some rest → preWp P c l (restWp P c l Q) Q a w → c.wp P Q a w
  | .seq x y, rest, Q, a, w, hf, h => by
    simp only [preWp] at h
    simp only [findLabel] at hf
    refine wp_seq ?_
    split at h
    · rename_i hx
      obtain ⟨r, hr⟩ := Option.isSome_iff_exists.1 hx
      simp only [restWp, if_pos hx] at h
      refine wp_of_pre hr (preWp_mono h (fun a w h => h) ?_)
      intro e a w hn h
      cases e with
      | normal => exact absurd rfl hn
      | _ => exact h
    · rename_i hx
      have hx' : findLabel x l = none := by simpa using hx
      rw [hx'] at hf
      simp only [restWp, if_neg hx] at h
      refine wp_mono h ?_
      intro e a w h
      cases e with
      | normal => exact wp_of_pre hf h
      | _ => exact h
  | .label l', rest, Q, a, w, hf, h => wp_label h
  | .skip, _, _, _, _, hf, _ => by simp [findLabel] at hf
  | .region .., _, _, _, _, hf, _ => by simp [findLabel] at hf
  | .cond .., _, _, _, _, hf, _ => by simp [findLabel] at hf
  | .block .., _, _, _, _, hf, _ => by simp [findLabel] at hf
  | .loop .., _, _, _, _, hf, _ => by simp [findLabel] at hf
  | .rangeFunc .., _, _, _, _, hf, _ => by simp [findLabel] at hf
  | .exit .., _, _, _, _, hf, _ => by simp [findLabel] at hf
  | .scope .., _, _, _, _, hf, _ => by simp [findLabel] at hf
  | .goto .., _, _, _, _, hf, _ => by simp [findLabel] at hf
  | .ret, _, _, _, _, hf, _ => by simp [findLabel] at hf
  | .refuse .., _, _, _, _, hf, _ => by simp [findLabel] at hf
theorem wp_rest {P : Program} {l : Nat} : ∀ {c rest : Code} {Q : Exit → Act → World → Prop} {a : Act} {w : World}, findLabel c l = some rest → restWp P c l Q a w → rest.wp P Q a w
  | .seq x y, rest, Q, a, w, hf, h => by
    simp only [restWp] at h
    simp only [findLabel] at hf
    split at h
    · rename_i hx
      obtain ⟨r, hr⟩ := Option.isSome_iff_exists.1 hx
      rw [hr] at hf
      simp at hf
      subst hf
      exact wp_seq (wp_rest hr h)
    · rename_i hx
      have hx' : findLabel x l = none := by simpa using hx
      rw [hx'] at hf
      exact wp_rest hf h
  | .label l', rest, Q, a, w, hf, h => by
    simp [findLabel] at hf
    obtain ⟨_, rfl⟩ := hf
    exact wp_skip h
  | .skip, _, _, _, _, hf, _ => by simp [findLabel] at hf
  | .region .., _, _, _, _, hf, _ => by simp [findLabel] at hf
  | .cond .., _, _, _, _, hf, _ => by simp [findLabel] at hf
  | .block .., _, _, _, _, hf, _ => by simp [findLabel] at hf
  | .loop .., _, _, _, _, hf, _ => by simp [findLabel] at hf
  | .rangeFunc .., _, _, _, _, hf, _ => by simp [findLabel] at hf
  | .exit .., _, _, _, _, hf, _ => by simp [findLabel] at hf
  | .scope .., _, _, _, _, hf, _ => by simp [findLabel] at hf
  | .goto .., _, _, _, _, hf, _ => by simp [findLabel] at hf
  | .ret, _, _, _, _, hf, _ => by simp [findLabel] at hf
  | .refuse .., _, _, _, _, hf, _ => by simp [findLabel] at hf
/-- the same, of plain values -/
def preVc (P : Program) (M : List Nat) : Code → Nat → (Env → List HO → Prop) → (Ex → Env → List HO → Prop) → Env → List HO → Prop
  | .seq x y, l, K, Q, e, H => if (findLabel x l).isSome = true then preVc P M x l K Q e H else vc P M x (fun x e H => match x with | .normal => preVc P M y l K Q e H | x => Q x e H) e H
  | _, _, K, _, e, H => K e H
def restVc (P : Program) (M : List Nat) : Code → Nat → (Ex → Env → List HO → Prop) → Env → List HO → Prop
  | .seq x y, l, Q, e, H => if (findLabel x l).isSome = true then restVc P M x l (fun x e H => match x with | .normal => vc P M y Q e H | x => Q x e H) e H else restVc P M y l Q e H
  | _, _, Q, e, H => Q .normal e H
def KR (N : Nat) (w0 : Bs) (Γ : Gh) (K : Env → List HO → Prop) : Act → World → Prop :=
  fun a w => ∃ (Γ' : Gh) (e : Env) (H : List HO), Gh.Le Γ Γ' ∧ R w0 Γ' H w ∧ RE N Γ' e a ∧ K e H
theorem KR.mono {N : Nat} {w0 : Bs} {Γ Γ' : Gh} {K : Env → List HO → Prop} {a : Act} {w : World} (le : Gh.Le Γ Γ') (h : KR N w0 Γ' K a w) : KR N w0 Γ K a w := by
  obtain ⟨Γ2, e, H, h1, h2⟩ := h
  exact ⟨Γ2, e, H, le.trans h1, h2⟩
theorem QR.le {N : Nat} {w0 : Bs} {Γ Γ' : Gh} {Q : Ex → Env → List HO → Prop} {x : Exit} {a : Act} {w : World} (le : Gh.Le Γ Γ') (h : QR N w0 Γ' Q x a w) : QR N w0 Γ Q x a w := by
  obtain ⟨X, Γ2, e, H, h1, h2, h3⟩ := h
  exact ⟨X, Γ2, e, H, h1, le.trans h2, h3⟩
theorem preVc_wp {P : Program} {M : List Nat} {N : Nat} (hmix : P.follows .mixedOrders = true) (l : Nat) : ∀ (c : Code) (K : Env → List HO → Prop) (Q : Ex → Env → List HO → Prop) (e : Env) (H : List HO), codeOk M N c = true → preVc P M c l K Q e H →
    ∀ (w0 : Bs) (Γ : Gh) (a : Act) (w : World), R w0 Γ H w → RE N Γ e a → preWp P c l (KR N w0 Γ K) (QR N w0 Γ Q) a w
  | .seq x y, K, Q, e, H, hok, h, w0, Γ, a, w, hr, he => by
    simp only [codeOk, Bool.and_eq_true] at hok
    simp only [preVc] at h
    simp only [preWp]
    split at h
    · rename_i hx
      rw [if_pos hx]
      exact preVc_wp hmix l x K Q e H hok.1 h w0 Γ a w hr he
    · rename_i hx
      rw [if_neg hx]
      refine wp_mono (vc_wp hmix x _ e H hok.1 h w0 Γ a w hr he) ?_
      rintro ex a' w' ⟨X, Γ', e', H', rfl, g1, g2, g3, g4⟩
      cases X with
      | normal => exact preWp_mono (preVc_wp hmix l y K Q e' H' hok.2 g4 w0 Γ' a' w' g2 g3) (fun _ _ h => h.mono g1) (fun _ _ _ _ h => QR.le g1 h)
      | exit i => exact QR.mk (X := .exit i) g1 g2 g3 g4
      | ret => exact QR.mk (X := .ret) g1 g2 g3 g4
      | goto l => exact QR.mk (X := .goto l) g1 g2 g3 g4
  | .skip, K, Q, e, H, hok, h, w0, Γ, a, w, hr, he => ⟨Γ, e, H, Gh.Le.refl Γ, hr, he, h⟩
  | .region .., K, Q, e, H, hok, h, w0, Γ, a, w, hr, he => ⟨Γ, e, H, Gh.Le.refl Γ, hr, he, h⟩
  | .cond .., K, Q, e, H, hok, h, w0, Γ, a, w, hr, he => ⟨Γ, e, H, Gh.Le.refl Γ, hr, he, h⟩
  | .block .., K, Q, e, H, hok, h, w0, Γ, a, w, hr, he => ⟨Γ, e, H, Gh.Le.refl Γ, hr, he, h⟩
  | .loop .., K, Q, e, H, hok, h, w0, Γ, a, w, hr, he => ⟨Γ, e, H, Gh.Le.refl Γ, hr, he, h⟩
  | .rangeFunc .., K, Q, e, H, hok, h, w0, Γ, a, w, hr, he => ⟨Γ, e, H, Gh.Le.refl Γ, hr, he, h⟩
  | .exit .., K, Q, e, H, hok, h, w0, Γ, a, w, hr, he => ⟨Γ, e, H, Gh.Le.refl Γ, hr, he, h⟩
  | .scope .., K, Q, e, H, hok, h, w0, Γ, a, w, hr, he => ⟨Γ, e, H, Gh.Le.refl Γ, hr, he, h⟩
  | .label .., K, Q, e, H, hok, h, w0, Γ, a, w, hr, he => ⟨Γ, e, H, Gh.Le.refl Γ, hr, he, h⟩
  | .goto .., K, Q, e, H, hok, h, w0, Γ, a, w, hr, he => ⟨Γ, e, H, Gh.Le.refl Γ, hr, he, h⟩
  | .ret, K, Q, e, H, hok, h, w0, Γ, a, w, hr, he => ⟨Γ, e, H, Gh.Le.refl Γ, hr, he, h⟩
  | .refuse .., K, Q, e, H, hok, h, w0, Γ, a, w, hr, he => ⟨Γ, e, H, Gh.Le.refl Γ, hr, he, h⟩
theorem restVc_wp {P : Program} {M : List Nat} {N : Nat} (hmix : P.follows .mixedOrders = true) (l : Nat) : ∀ (c : Code) (Q : Ex → Env → List HO → Prop) (e : Env) (H : List HO), codeOk M N c = true → restVc P M c l Q e H →
    ∀ (w0 : Bs) (Γ : Gh) (a : Act) (w : World), R w0 Γ H w → RE N Γ e a → restWp P c l (QR N w0 Γ Q) a w
  | .seq x y, Q, e, H, hok, h, w0, Γ, a, w, hr, he => by
    simp only [codeOk, Bool.and_eq_true] at hok
    simp only [restVc] at h
    simp only [restWp]
    split at h
    · rename_i hx
      rw [if_pos hx]
      refine restWp_mono (restVc_wp hmix l x _ e H hok.1 h w0 Γ a w hr he) ?_
      rintro ex a' w' ⟨X, Γ', e', H', rfl, g1, g2, g3, g4⟩
      cases X with
      | normal => exact wp_mono (vc_wp hmix y Q e' H' hok.2 g4 w0 Γ' a' w' g2 g3) (fun _ _ _ h => QR.le g1 h)
      | exit i => exact QR.mk (X := .exit i) g1 g2 g3 g4
      | ret => exact QR.mk (X := .ret) g1 g2 g3 g4
      | goto l => exact QR.mk (X := .goto l) g1 g2 g3 g4
    · rename_i hx
      rw [if_neg hx]
      exact restVc_wp hmix l y Q e H hok.2 h w0 Γ a w hr he
  | .skip, Q, e, H, hok, h, w0, Γ, a, w, hr, he => QR.mk (X := .normal) (Gh.Le.refl Γ) hr he h
  | .region .., Q, e, H, hok, h, w0, Γ, a, w, hr, he => QR.mk (X := .normal) (Gh.Le.refl Γ) hr he h
  | .cond .., Q, e, H, hok, h, w0, Γ, a, w, hr, he => QR.mk (X := .normal) (Gh.Le.refl Γ) hr he h
  | .block .., Q, e, H, hok, h, w0, Γ, a, w, hr, he => QR.mk (X := .normal) (Gh.Le.refl Γ) hr he h
  | .loop .., Q, e, H, hok, h, w0, Γ, a, w, hr, he => QR.mk (X := .normal) (Gh.Le.refl Γ) hr he h
  | .rangeFunc .., Q, e, H, hok, h, w0, Γ, a, w, hr, he => QR.mk (X := .normal) (Gh.Le.refl Γ) hr he h
  | .exit .., Q, e, H, hok, h, w0, Γ, a, w, hr, he => QR.mk (X := .normal) (Gh.Le.refl Γ) hr he h
  | .scope .., Q, e, H, hok, h, w0, Γ, a, w, hr, he => QR.mk (X := .normal) (Gh.Le.refl Γ) hr he h
  | .label .., Q, e, H, hok, h, w0, Γ, a, w, hr, he => QR.mk (X := .normal) (Gh.Le.refl Γ) hr he h
  | .goto .., Q, e, H, hok, h, w0, Γ, a, w, hr, he => QR.mk (X := .normal) (Gh.Le.refl Γ) hr he h
  | .ret, Q, e, H, hok, h, w0, Γ, a, w, hr, he => QR.mk (X := .normal) (Gh.Le.refl Γ) hr he h
  | .refuse .., Q, e, H, hok, h, w0, Γ, a, w, hr, he => QR.mk (X := .normal) (Gh.Le.refl Γ) hr he h
/-- a jump to the label -/
def jmpK (l : Nat) (G : Env → List HO → Prop) (Q : Ex → Env → List HO → Prop) : Ex → Env → List HO → Prop := fun x e H => match x with | .goto l' => l' = l ∧ G e H | x => Q x e H
theorem QR.jump {N l : Nat} {w0 : Bs} {Γ : Gh} {G : Env → List HO → Prop} {Q : Ex → Env → List HO → Prop} {x : Exit} {a : Act} {w : World} (h : QR N w0 Γ (jmpK l G Q) x a w) : Exit.jump l (KR N w0 Γ G) (QR N w0 Γ Q) x a w := by
  obtain ⟨X, Γ', e, H, rfl, g1, g2, g3, g4⟩ := h
  cases X with
  | normal => exact QR.mk (X := .normal) g1 g2 g3 g4
  | exit i => exact QR.mk (X := .exit i) g1 g2 g3 g4
  | ret => exact QR.mk (X := .ret) g1 g2 g3 g4
  | goto l' => exact ⟨g4.1, Γ', e, H, g1, g2, g3, g4.2⟩
theorem SC.jumps0 {P : Program} {M : List Nat} {c : Code} {Q : Ex → Env → List HO → Prop} {e : Env} {H : List HO} (hmix : P.follows .mixedOrders = true) (l : Nat) (hf : (findLabel c l).isSome = true) (J : Nat → Env → List HO → Prop)
    (first : preVc P M c l (fun e H => ∃ n, J n e H) (jmpK l (fun e H => ∃ n, J n e H) Q) e H)
    (pass : ∀ n e H, J n e H → restVc P M c l (jmpK l (fun e H => ∃ m, m < n ∧ J m e H) Q) e H) : SC P M c Q e H := by
  intro N hok w0 Γ a w hr he
  obtain ⟨rest, hf⟩ := Option.isSome_iff_exists.1 hf
  have hp : ∀ n a w, KR N w0 Γ (J n) a w → restWp P c l (Exit.jump l (fun a w => ∃ m, m < n ∧ KR N w0 Γ (J m) a w) (QR N w0 Γ Q)) a w := by
    rintro n a w ⟨Γ', e, H, g1, g2, g3, g4⟩
    refine restWp_mono (restVc_wp hmix l c _ e H hok (pass n e H g4) w0 Γ' a w g2 g3) ?_
    intro x a' w' h
    have h2 := (QR.le g1 h).jump
    cases x with
    | goto l' =>
      obtain ⟨k1, Γ2, e2, H2, k2, k3, k4, m, k5, k6⟩ := h2
      exact ⟨k1, m, k5, Γ2, e2, H2, k2, k3, k4, k6⟩
    | _ => exact h2
  refine wp_scope_ix l (fun n => KR N w0 Γ (J n)) hf ?_ ?_
  · refine wp_of_pre hf (preWp_mono (preVc_wp hmix l c _ _ e H hok first w0 Γ a w hr he) ?_ ?_)
    · rintro a' w' ⟨Γ2, e2, H2, k2, k3, k4, n, k6⟩
      refine restWp_mono (hp n a' w' ⟨Γ2, e2, H2, k2, k3, k4, k6⟩) ?_
      intro x a2 w2 h
      cases x with
      | goto l' => obtain ⟨h1, m, _, h2⟩ := h; exact ⟨h1, m, h2⟩
      | _ => exact h
    · intro x a' w' _ h
      have h2 := QR.jump h
      cases x with
      | goto l' => obtain ⟨h1, Γ2, e2, H2, k2, k3, k4, n, k6⟩ := h2; exact ⟨h1, n, Γ2, e2, H2, k2, k3, k4, k6⟩
      | _ => exact h2
  · intro n a' w' h
    exact wp_rest hf (hp n a' w' h)

/-! ### a function out of its body -/
def envOf (args : List AV) : Env := fun t => args.getD t (.tup [])

def resV (P : Program) (rs : List ResultVar) (e : Env) (H : List HO) : List AV :=
  rs.map fun | .tmp t => e t | .cell t ty => ldpV P ty (e t) H
def resS (P : Program) (N : Nat) (rs : List ResultVar) (e : Env) (H : List HO) : Prop :=
  match rs with
  | [] => True
  | .tmp t :: rs => t < N ∧ resS P N rs e H
  | .cell t ty :: rs => (t < N ∧ ∃ i off, e t = .ptr i off ∧ ldpS P ty (e t) H) ∧ resS P N rs e H
def oneV (vs : List AV) : AV := match vs with | [v] => v | vs => .tup vs

theorem results_run {P : Program} {N : Nat} {w0 : Bs} {Γ : Gh} {e : Env} {H : List HO} {a : Act} {w : World} (hr : R w0 Γ H w) (he : RE N Γ e a) {g : ResultVar → Sem Value}
    (hg1 : ∀ t, g (.tmp t) = pure (a.tmps.getD t undef)) (hg2 : ∀ x t, g (.cell x t) = (do loadVar t (← asAddr (a.tmps.getD x undef)))) : ∀ (rs : List ResultVar), resS P N rs e H →
    ∃ vs, (rs.mapM g).run P w = .ok vs w ∧ VRs Γ (resV P rs e H) vs
  | [], _ => ⟨[], rfl, .nil⟩
  | .tmp t :: rs, h => by
    obtain ⟨h1, h2⟩ := h
    obtain ⟨vs, k1, k2⟩ := results_run hr he hg1 hg2 rs h2
    refine ⟨a.tmps.getD t undef :: vs, ?_, .cons (he.val t h1) k2⟩
    simp only [List.mapM_cons, Sem.run_bind, hg1, Sem.run_pure, Result.andThen_ok, k1]
  | .cell t ty :: rs, h => by
    obtain ⟨⟨h1, i, off, he1, hs⟩, h2⟩ := h
    obtain ⟨vs, k1, k2⟩ := results_run hr he hg1 hg2 rs h2
    have hv := he.val t h1
    rw [he1] at hv hs
    simp only [ldpS] at hs
    split at hs
    · rename_i cs hc
      obtain ⟨v, g1, g2⟩ := ld_run (P := P) hr hv hc hs
      refine ⟨v :: vs, ?_, .cons ?_ k2⟩
      · have had : ∃ ad, (asAddr (a.tmps.getD t undef)).run P w = .ok ad w ∧ (loadVar ty ad).run P w = .ok v w := by
          generalize a.tmps.getD t undef = u at hv g1
          cases hv
          simp only [Instr.loadAt, Instr.sureAddr, Sem.run_bind, Sem.run_pure, Result.andThen_ok] at g1
          exact ⟨_, rfl, g1⟩
        obtain ⟨ad, d1, d2⟩ := had
        simp only [List.mapM_cons, Sem.run_bind, hg2, d1, Result.andThen_ok, d2, k1, Sem.run_pure]
      · simp only [he1, ldpV, hc]; exact g2
    · exact hs.elim

theorem results_run' {P : Program} {N : Nat} {w0 : Bs} {Γ : Gh} {e : Env} {H : List HO} {a : Act} {w : World} {fn : Func} (hr : R w0 Γ H w) (he : RE N Γ e a) (hs : resS P N fn.results.toList e H) :
    ∃ v, (results fn a.tmps).run P w = .ok v w ∧ VR Γ (oneV (resV P fn.results.toList e H)) v := by
  obtain ⟨g, hres, hg1, hg2⟩ : ∃ g : ResultVar → Sem Value, results fn a.tmps = (do let vs ← fn.results.mapM g; pure (if h : vs.size = 1 then vs[0] else .tuple vs)) ∧ (∀ t, g (.tmp t) = pure (a.tmps.getD t undef)) ∧
      (∀ x t, g (.cell x t) = (do loadVar t (← asAddr (a.tmps.getD x undef)))) := ⟨_, rfl, fun _ => rfl, fun _ _ => rfl⟩
  obtain ⟨rv, m1, m2⟩ := results_run hr he hg1 hg2 fn.results.toList hs
  have hm : (fn.results.mapM g).run P w = .ok rv.toArray w := by
    rw [Array.mapM_eq_mapM_toList, Sem.run_map, m1]
    rfl
  rw [hres]
  simp only [Sem.run_bind, hm, Result.andThen_ok, Sem.run_pure]
  revert m2
  generalize resV P fn.results.toList e H = rs
  intro m2
  cases m2 with
  | nil => exact ⟨_, rfl, .tup .nil⟩
  | cons r t =>
    cases t with
    | nil => exact ⟨_, rfl, r⟩
    | cons r2 t2 => exact ⟨_, by simp, .tup (.cons r (.cons r2 t2))⟩

theorem TS.of_body {P : Program} {M : List Nat} {f : FuncId} {fn : Func} {c : Code} {args : List AV} {H : List HO} {K : AV → List HO → Prop} (hmix : P.follows .mixedOrders = true) (hf : P.funcs[f]? = some fn) (hn : (fn.name == "runtime.NumGoroutine") = false)
    (hb : fn.body = some c) (hok : codeOk M fn.ntmps c = true) (hlen : args.length ≤ fn.ntmps)
    (h : vc P M c (fun x e H => match x with | .exit _ => False | .goto _ => False | _ => resS P fn.ntmps fn.results.toList e H ∧ K (oneV (resV P fn.results.toList e H)) H) (envOf args) H) : TS P f args H K := by
  refine fun w0 Γ w vs hr hv => .inl ⟨⟨fn, hf, hn, by rw [hb]; rfl⟩, calls_of_wp hf hb ?_⟩
  have hl := hv.length
  have he : RE fn.ntmps Γ (envOf args) { tmps := vs.toArray ++ Array.replicate (fn.ntmps - vs.toArray.size) undef, defers := [] } := by
    refine ⟨by simp; omega, rfl, fun t ht => ?_⟩
    unfold envOf
    rcases Nat.lt_or_ge t args.length with h | h
    · obtain ⟨v, h1, h2⟩ := hv.get t args[t] (List.getElem?_eq_getElem h)
      have e1 : args.getD t (.tup []) = args[t] := by simp [h]
      have e2 : (vs.toArray ++ Array.replicate (fn.ntmps - vs.toArray.size) undef).getD t undef = v := by
        rw [Array.getD_eq_getD_getElem?, Array.getElem?_append_left (by simp; omega)]
        simp [h1]
      rw [e1, e2]
      exact h2
    · have e1 : args.getD t (.tup []) = .tup [] := by simp [h]
      have e2 : (vs.toArray ++ Array.replicate (fn.ntmps - vs.toArray.size) undef).getD t undef = undef := by
        rw [Array.getD_eq_getD_getElem?, Array.getElem?_append_right (by simp; omega), Array.getElem?_replicate]
        split <;> rfl
      rw [e1, e2]
      exact .tup .nil
  refine wp_mono (vc_wp hmix c _ _ H hok h w0 Γ _ w hr he) ?_
  rintro ex a' w' ⟨X, Γ', e', H', rfl, g1, g2, g3, g4⟩
  have fin : resS P fn.ntmps fn.results.toList e' H' ∧ K (oneV (resV P fn.results.toList e' H')) H' → a'.defers = [] ∧ ∃ v, (results fn a'.tmps).run P w' = .ok v w' ∧
      ∃ Γ'' v' r H'', Ending.returned v = .returned v' ∧ Gh.Le Γ Γ'' ∧ VR Γ'' r v' ∧ R w0 Γ'' H'' w' ∧ K r H'' := by
    rintro ⟨k1, k2⟩
    refine ⟨g3.defers, ?_⟩
    obtain ⟨v, m1, m2⟩ := results_run' g2 g3 k1
    exact ⟨v, m1, Γ', v, _, H', rfl, g1, m2, g2, k2⟩
  cases X with
  | normal => exact fin g4
  | exit i => exact g4.elim
  | ret => exact fin g4
  | goto l => exact g4.elim

end Go.Proofs.YtjplcdeaedflpaaGreatDoor.PL

namespace Go.Proofs.YtjplcdeaedflpaaGreatDoor.PL
open Go.RowKit

/-! ### what simp is to know of the conditions -/
section congr
variable {P : Program} {M : List Nat}
theorem vc_congr {c : Code} {Q : Ex → Env → List HO → Prop} {e e' : Env} {H H' : List HO} (h1 : e = e') (h2 : H = H') : vc P M c Q e H = vc P M c Q e' H' := by rw [h1, h2]
theorem vcOps_congr {d : Bool} {ops : Array Oper} {l : List Oper} {K : Env → List HO → Prop} {e e' : Env} {H H' : List HO} (h1 : e = e') (h2 : H = H') : vcOps P M d ops l K e H = vcOps P M d ops l K e' H' := by rw [h1, h2]
theorem vcG_congr {d : Bool} {ops : Array Oper} {o : Oper} {K : AV → List HO → Prop} {e e' : Env} {H H' : List HO} (h1 : e = e') (h2 : H = H') : vcG P M d ops o e H K = vcG P M d ops o e' H' K := by rw [h1, h2]
theorem vcOp_congr {d : Bool} {o : Oper} {K : AV → List HO → Prop} {e e' : Ev} {H H' : List HO} (h1 : e = e') (h2 : H = H') : vcOp P M d o e H K = vcOp P M d o e' H' K := by rw [h1, h2]
theorem TS_congr {f : FuncId} {xs xs' : List AV} {K : AV → List HO → Prop} {H H' : List HO} (h1 : xs = xs') (h2 : H = H') : TS P f xs H K = TS P f xs' H' K := by rw [h1, h2]

def condK (x : AV) (A B : Unit → Prop) : Prop := match x with | .bool b => (b = true → A ()) ∧ (b = false → B ()) | .ub => A () ∧ B () | _ => False
theorem condK_congr {x x' : AV} {A B : Unit → Prop} (h : x = x') : condK x A B = condK x' A B := by rw [h]
theorem condK_true {A B : Unit → Prop} : condK (.bool true) A B = A () := by simp [condK]
theorem condK_false {A B : Unit → Prop} : condK (.bool false) A B = B () := by simp [condK]
theorem condK_of {b : Bool} {A B : Unit → Prop} (h : b = true → A ()) (h' : b = false → B ()) : condK (.bool b) A B := ⟨h, h'⟩
theorem condK_iff {b : Bool} {A B : Unit → Prop} : condK (.bool b) A B = ((b = true → A ()) ∧ (b = false → B ())) := _root_.id rfl
/-- a branch, not yet taken -/
def vcU (P : Program) (M : List Nat) (c : Code) (Q : Ex → Env → List HO → Prop) (e : Env) (H : List HO) : Unit → Prop := fun _ => vc P M c Q e H
theorem vcU_apply {P : Program} {M : List Nat} {c : Code} {Q : Ex → Env → List HO → Prop} {e : Env} {H : List HO} {u : Unit} : vcU P M c Q e H u = vc P M c Q e H := _root_.id rfl
attribute [simp] vcU_apply
end congr

section eqs
variable {P : Program} {M : List Nat} {Q : Ex → Env → List HO → Prop} {e : Env} {H : List HO}
theorem vc_skip : vc P M .skip Q e H = Q .normal e H := _root_.id rfl
theorem vc_label {l : Nat} : vc P M (.label l) Q e H = Q .normal e H := _root_.id rfl
def regK (b : Bool) (A B : Unit → Prop) : Prop := if b = true then A () else B ()
theorem regK_congr {b b' : Bool} {A B : Unit → Prop} (h : b = b') : regK b A B = regK b' A B := by rw [h]
theorem regK_true {A B : Unit → Prop} : regK true A B = A () := _root_.id rfl
theorem regK_false {A B : Unit → Prop} : regK false A B = B () := _root_.id rfl
theorem vc_region {id : Nat} {ops : Array Oper} {d : Bool} : vc P M (.region id ops d) Q e H = regK (d && M.contains (id + 300000)) (fun _ => vcR P M id ops ops.toList 0 H.length [] (Q .normal) e (H ++ deads M id 0 ops.toList)) (fun _ => regK (d && M.contains (id + 100000)) (fun _ => vcD P M id ops ops.toList 0 (Q .normal) e H [] []) (fun _ => vcOps P M d ops ops.toList (Q .normal) e H)) := _root_.id rfl
/-- what follows an operation, where each load tells the same of all heaps that it may meet -/
def dK (P : Program) (M : List Nat) (id : Nat) (ops : Array Oper) (o : Oper) (os : List Oper) (i : Nat) (K : Env → List HO → Prop) (e : Env) (H : List HO) (past : List (Nat × List HO)) (pend : List (Nat × (List HO → Prop))) : AV → List HO → Prop := fun r H' =>
  (isLd o.op = true → ∀ h, h ∈ past → depM M id i h.1 = false → vcG P M true ops o e h.2 (pt r h.2)) ∧ (isW o.op = true → ∀ p, p ∈ pend → depM M id i p.1 = false → p.2 H') ∧
      vcD P M id ops os (i + 1) K (updo e o.dst r) H' (if isW o.op = true then (i, H) :: past else past)
        (if isLd o.op = true then (i, fun h => vcG P M true ops o e h (pt r h)) :: pend else if isW o.op = true then pend.filter (fun p => !depM M id i p.1) else pend)
section
variable {id i : Nat} {ops : Array Oper} {o : Oper} {os : List Oper} {K : Env → List HO → Prop} {past past' : List (Nat × List HO)} {pend pend' : List (Nat × (List HO → Prop))} {r : AV} {H' : List HO}
theorem dK_apply : dK P M id ops o os i K e H past pend r H' =
  ((isLd o.op = true → ∀ h, h ∈ past → depM M id i h.1 = false → vcG P M true ops o e h.2 (pt r h.2)) ∧ (isW o.op = true → ∀ p, p ∈ pend → depM M id i p.1 = false → p.2 H') ∧
      vcD P M id ops os (i + 1) K (updo e o.dst r) H' (if isW o.op = true then (i, H) :: past else past)
        (if isLd o.op = true then (i, fun h => vcG P M true ops o e h (pt r h)) :: pend else if isW o.op = true then pend.filter (fun p => !depM M id i p.1) else pend)) := _root_.id rfl
theorem vcD_nil : vcD P M id ops [] i K e H past pend = K e H := _root_.id rfl
/-- what follows a call that changes memory -/
def dW (P : Program) (M : List Nat) (id : Nat) (ops : Array Oper) (o : Oper) (os : List Oper) (i : Nat) (K : Env → List HO → Prop) (e : Env) (H : List HO) (past : List (Nat × List HO)) (pend : List (Nat × (List HO → Prop))) : AV → List HO → Prop := fun r H' =>
  (∀ p, p ∈ pend → depM M id i p.1 = false → p.2 H') ∧ vcD P M id ops os (i + 1) K (updo e o.dst r) H' ((i, H) :: past) (pend.filter (fun p => !depM M id i p.1))
theorem dW_apply : dW P M id ops o os i K e H past pend r H' = ((∀ p, p ∈ pend → depM M id i p.1 = false → p.2 H') ∧ vcD P M id ops os (i + 1) K (updo e o.dst r) H' ((i, H) :: past) (pend.filter (fun p => !depM M id i p.1))) := _root_.id rfl
def TWK (P : Program) (f : FuncId) (xs : List AV) (H : List HO) (K : AV → List HO → Prop) : Prop := ∃ r H', TS P f xs H (pt r H') ∧ K r H'
theorem TWK_congr {f : FuncId} {xs xs' : List AV} {H H' : List HO} {K : AV → List HO → Prop} (h1 : xs = xs') (h2 : H = H') : TWK P f xs H K = TWK P f xs' H' K := by rw [h1, h2]
theorem TWK.call {f : FuncId} {xs : List AV} {H H' : List HO} {K : AV → List HO → Prop} {r : AV} (h : TS P f xs H (pt r H')) (hk : K r H') : TWK P f xs H K := ⟨r, H', h, hk⟩
def callWK (P : Program) (f : AV) (xs : List AV) (H : List HO) (K : AV → List HO → Prop) : Prop := callW P f xs H K
theorem callWK_congr {f f' : AV} {xs xs' : List AV} {H H' : List HO} {K : AV → List HO → Prop} (h0 : f = f') (h1 : xs = xs') (h2 : H = H') : callWK P f xs H K = callWK P f' xs' H' K := by rw [h0, h1, h2]
theorem callWK_fn {f : FuncId} {first captured xs : List AV} {K : AV → List HO → Prop} : callWK P (.fn (.func f) first captured) xs H K = TWK P f (first ++ xs ++ captured) H K := _root_.id rfl
theorem vcW_call {x : Operand} {xs : Array Operand} {ts : Array TypeId} {dst : Option Nat} {ty : Nat} {pos : String} {after : Array Edge} {K : AV → List HO → Prop} {M : List Nat} {ops : Array Oper} : vcW P M ops ⟨dst, .call { callee := .value x, args := xs, argTypes := ts }, ty, pos, after, none⟩ e H K = callWK P (evA e x) (xs.toList.map (evA e)) H K := _root_.id rfl
theorem vcW_callG {x : Operand} {xs : Array Operand} {ts : Array TypeId} {dst : Option Nat} {ty : Nat} {pos : String} {after : Array Edge} {g : Nat × Bool} {K : AV → List HO → Prop} {M : List Nat} {ops : Array Oper} : vcW P M ops ⟨dst, .call { callee := .value x, args := xs, argTypes := ts }, ty, pos, after, some g⟩ e H K = TWG P M ops ⟨dst, .call { callee := .value x, args := xs, argTypes := ts }, ty, pos, after, some g⟩ e H K := _root_.id rfl
theorem TWG_congr {o : Oper} {M : List Nat} {ops : Array Oper} {e e' : Env} {H H' : List HO} {K : AV → List HO → Prop} (h1 : e = e') (h2 : H = H') : TWG P M ops o e H K = TWG P M ops o e' H' K := by rw [h1, h2]
theorem TWG.call {o : Oper} {M : List Nat} {ops : Array Oper} {e : Env} {H H' : List HO} {K : AV → List HO → Prop} {r : AV} (h : vcG P M false ops o e H (pt r H')) (hk : K r H') : TWG P M ops o e H K := ⟨r, H', h, hk⟩
theorem vcW_congr {o : Oper} {M : List Nat} {ops : Array Oper} {e e' : Env} {H H' : List HO} {K : AV → List HO → Prop} (h1 : e = e') (h2 : H = H') : vcW P M ops o e H K = vcW P M ops o e' H' K := by rw [h1, h2]
/-- the one or the other -/
def wgK (b : Bool) (A B : Unit → Prop) : Prop := if b = true then A () else B ()
theorem wgK_congr {b b' : Bool} {A B : Unit → Prop} (h : b = b') : wgK b A B = wgK b' A B := by rw [h]
theorem wgK_true {A B : Unit → Prop} : wgK true A B = A () := _root_.id rfl
theorem wgK_false {A B : Unit → Prop} : wgK false A B = B () := _root_.id rfl
theorem vcD_cons : vcD P M id ops (o :: os) i K e H past pend = wgK (mkW M id i) (fun _ => vcW P M ops o e H (dW P M id ops o os i K e H past pend)) (fun _ => vcG P M true ops o e H (dK P M id ops o os i K e H past pend)) := _root_.id rfl
theorem vcD_congr {l : List Oper} {e e' : Env} {H H' : List HO} (h1 : e = e') (h2 : H = H') (h3 : past = past') (h4 : pend = pend') : vcD P M id ops l i K e H past pend = vcD P M id ops l i K e' H' past' pend' := by rw [h1, h2, h3, h4]
end
section
variable {id i nx nx' : Nat} {ops : Array Oper} {o : Oper} {os : List Oper} {K : Env → List HO → Prop} {tr tr' : List (Nat × Tr)} {r : AV} {H' : List HO}
def rK (P : Program) (M : List Nat) (id : Nat) (ops : Array Oper) (o : Oper) (os : List Oper) (i nx : Nat) (t : Option Tr) (tr : List (Nat × Tr)) (K : Env → List HO → Prop) (e : Env) : AV → List HO → Prop := fun r H' =>
  clT M id i t tr ∧ vcR P M id ops os (i + 1) nx (adT i t tr) K (updo e o.dst r) H'
theorem rK_apply {t : Option Tr} : rK P M id ops o os i nx t tr K e r H' = (clT M id i t tr ∧ vcR P M id ops os (i + 1) nx (adT i t tr) K (updo e o.dst r) H') := _root_.id rfl
def ruK (P : Program) (M : List Nat) (id : Nat) (ops : Array Oper) (o : Oper) (os : List Oper) (i nx : Nat) (tr : List (Nat × Tr)) (K : Env → List HO → Prop) (e : Env) (H : List HO) : AV → Prop := fun a =>
  clT M id i (rdT a) tr ∧ vcR P M id ops os (i + 1) nx (adT i (rdT a) tr) K (updo e o.dst .any) H
theorem ruK_apply {a : AV} : ruK P M id ops o os i nx tr K e H a = (clT M id i (rdT a) tr ∧ vcR P M id ops os (i + 1) nx (adT i (rdT a) tr) K (updo e o.dst .any) H) := _root_.id rfl
theorem vcR_nil : vcR P M id ops [] i nx tr K e H = K e H := _root_.id rfl
def raK (P : Program) (M : List Nat) (id : Nat) (ops : Array Oper) (o : Oper) (os : List Oper) (i nx : Nat) (tr : List (Nat × Tr)) (K : Env → List HO → Prop) (e : Env) : Tr → AV → List HO → Prop := fun t r H' =>
  clT M id i (some t) tr ∧ vcR P M id ops os (i + 1) nx (adT i (some t) tr) K (updo e o.dst r) H'
theorem raK_apply {t : Tr} : raK P M id ops o os i nx tr K e t r H' = (clT M id i (some t) tr ∧ vcR P M id ops os (i + 1) nx (adT i (some t) tr) K (updo e o.dst r) H') := _root_.id rfl
theorem vcA_app {x y : Operand} {t t' : TypeId} {dst : Option Nat} {ty : Nat} {pos : String} {after : Array Edge} {K : Tr → AV → List HO → Prop} : vcA P ⟨dst, .call { callee := .builtin .append, args := #[x, y], argTypes := #[t, t'] }, ty, pos, after, none⟩ e nx H K = apA P t t' (evA e x).ex (evA e y) nx H K := _root_.id rfl
theorem apA_exact {t t' : TypeId} {xs ys : List AV} {own : Own} {K : Tr → AV → List HO → Prop} : apA P t t' (.sl .exact xs) (.sl own ys) nx H K = (H[nx]? = some .dead ∧ appS P t t' false (.sl .exact xs) (.sl own ys) [] ∧ (ys.length = 0 → K (.wr nx) (.sl .exact xs) H) ∧ (ys.length ≠ 0 → (∀ k, AV.lts k ((xs ++ ys).flatMap AV.cells) = true) ∧ K (.wr nx) (.sl (.tok nx) (xs ++ ys)) (H.set nx (.spare (xs.length + ys.length) (szA P t))))) := _root_.id rfl
theorem apA_tok {t t' : TypeId} {i : Nat} {xs ys : List AV} {own : Own} {K : Tr → AV → List HO → Prop} : apA P t t' (.sl (.tok i) xs) (.sl own ys) nx H K = (H[nx]? = some .dead ∧ appS P t t' false (.sl (.tok i) xs) (.sl own ys) H ∧ K (.wr i) (.sl (.tok i) (xs ++ ys)) (H.set i (.spare (xs.length + ys.length) (szA P t)))) := _root_.id rfl
theorem vcA_congr {e e' : Env} {H H' : List HO} {K : Tr → AV → List HO → Prop} (h1 : e = e') (h2 : nx = nx') (h3 : H = H') : vcA P o e nx H K = vcA P o e' nx' H' K := by rw [h1, h2, h3]
theorem apA_congr {t t' : TypeId} {x x' y y' : AV} {H H' : List HO} {K : Tr → AV → List HO → Prop} (h0 : x = x') (h1 : y = y') (h2 : nx = nx') (h3 : H = H') : apA P t t' x y nx H K = apA P t t' x' y' nx' H' K := by rw [h0, h1, h2, h3]
theorem vcR_cons : vcR P M id ops (o :: os) i nx tr K e H = wgK (apM M id i) (fun _ => vcA P o e nx H (raK P M id ops o os i (nx + 1) tr K e)) (fun _ => wgK (newM M id i) (fun _ => vcN P o e nx H (rK P M id ops o os i (nx + 1) (some (.wr nx)) tr K e)) (fun _ => wgK (mkW M id i) (fun _ => vcW P M ops o e H (rK P M id ops o os i nx (some .bar) tr K e)) (fun _ =>
    wgK (isAl o) (fun _ => alR (ubM M id i) (alZ P e o) nx H (rK P M id ops o os i (nx + 1) (some (.wr nx)) tr K e)) (fun _ =>
    wgK (ubM M id i) (fun _ => stU P (stA o) e H (ruK P M id ops o os i nx tr K e H)) (fun _ => vcG P M true ops o e H (rK P M id ops o os i nx (trO e o) tr K e)))))) := _root_.id rfl
/-- a call that makes one row -/
def NWK (P : Program) (f : FuncId) (xs : List AV) (nx : Nat) (H : List HO) (K : AV → List HO → Prop) : Prop := H[nx]? = some .dead ∧ ((∃ n sz cs, (∀ k, AV.lts k cs = true) ∧ (∀ H2 : List HO, TS P f xs H2 (pt (.mv H2.length n sz 0 n) (H2 ++ [.row n sz cs]))) ∧ K (.mv nx n sz 0 n) (H.set nx (.row n sz cs))) ∨
      ∃ r, (∀ H2 : List HO, TS P f xs H2 (pt r H2)) ∧ K r H)
theorem NWK_congr {f : FuncId} {xs xs' : List AV} {H H' : List HO} {K : AV → List HO → Prop} (h1 : xs = xs') (h2 : nx = nx') (h3 : H = H') : NWK P f xs nx H K = NWK P f xs' nx' H' K := by rw [h1, h2, h3]
theorem NWK.row {f : FuncId} {xs : List AV} {H : List HO} {K : AV → List HO → Prop} {n sz : Nat} {cs : List AV} (hd : H[nx]? = some .dead) (hc : ∀ k, AV.lts k cs = true) (h : ∀ H2 : List HO, TS P f xs H2 (pt (.mv H2.length n sz 0 n) (H2 ++ [.row n sz cs]))) (hk : K (.mv nx n sz 0 n) (H.set nx (.row n sz cs))) : NWK P f xs nx H K :=
  ⟨hd, .inl ⟨n, sz, cs, hc, h, hk⟩⟩
theorem NWK.none {f : FuncId} {xs : List AV} {H : List HO} {K : AV → List HO → Prop} {r : AV} (hd : H[nx]? = some .dead) (h : ∀ H2 : List HO, TS P f xs H2 (pt r H2)) (hk : K r H) : NWK P f xs nx H K := ⟨hd, .inr ⟨r, h, hk⟩⟩
theorem callN_fn {f : FuncId} {first captured xs : List AV} {K : AV → List HO → Prop} : callN P (.fn (.func f) first captured) xs nx H K = NWK P f (first ++ xs ++ captured) nx H K := _root_.id rfl
theorem vcN_call {x : Operand} {xs : Array Operand} {ts : Array TypeId} {dst : Option Nat} {ty : Nat} {pos : String} {after : Array Edge} {K : AV → List HO → Prop} : vcN P ⟨dst, .call { callee := .value x, args := xs, argTypes := ts }, ty, pos, after, none⟩ e nx H K = callN P (evA e x) (xs.toList.map (evA e)) nx H K := _root_.id rfl
theorem vcN_congr {e e' : Env} {H H' : List HO} {K : AV → List HO → Prop} (h1 : e = e') (h2 : nx = nx') (h3 : H = H') : vcN P o e nx H K = vcN P o e' nx' H' K := by rw [h1, h2, h3]
theorem callN_congr {f f' : AV} {xs xs' : List AV} {H H' : List HO} {K : AV → List HO → Prop} (h0 : f = f') (h1 : xs = xs') (h2 : nx = nx') (h3 : H = H') : callN P f xs nx H K = callN P f' xs' nx' H' K := by rw [h0, h1, h2, h3]
theorem vcR_congr {l : List Oper} {e e' : Env} {H H' : List HO} (h1 : e = e') (h2 : H = H') (h3 : nx = nx') (h4 : tr = tr') : vcR P M id ops l i nx tr K e H = vcR P M id ops l i nx' tr' K e' H' := by rw [h1, h2, h3, h4]
theorem alR_congr {u u' : Bool} {z z' : Option AV} {H H' : List HO} {K : AV → List HO → Prop} (h1 : u = u') (h2 : z = z') (h3 : nx = nx') (h4 : H = H') : alR u z nx H K = alR u' z' nx' H' K := by rw [h1, h2, h3, h4]
theorem alR_some {u : Bool} {z : AV} {K : AV → List HO → Prop} : alR u (some z) nx H K = (z.okc = true ∧ H[nx]? = some .dead ∧ (u = true → ∃ b, z = .bool b) ∧ K (.ptr nx 0) (H.set nx (.box (if u = true then [.ub] else z.cells)))) := _root_.id rfl
theorem stU_congr {s s' : Option (TypeId × Operand × Operand)} {H H' : List HO} {K : AV → Prop} (h1 : s = s') (h2 : H = H') : stU P s e H K = stU P s' e H' K := by rw [h1, h2]
theorem stU_some {t : TypeId} {a x : Operand} {K : AV → Prop} : stU P (some (t, a, x)) e H K = ((match evA e a with | .ptr c 0 => H[c]? = some (.box [.ub]) | _ => False) ∧ szOf P t = some 1 ∧ isTr (evA e x) ∧ K (evA e a)) := _root_.id rfl
theorem deads_nil : deads M id i [] = [] := rfl
theorem deads_cons : deads M id i (o :: os) = if (isAl o || newM M id i || apM M id i) = true then .dead :: deads M id (i + 1) os else deads M id (i + 1) os := rfl
end
attribute [congr] vcA_congr apA_congr
attribute [simp] raK_apply vcA_app apA_exact apA_tok apM rK_apply ruK_apply vcR_nil vcR_cons alR_some stU_some deads_nil deads_cons callN_fn vcN_call newM isAl alZ stA ubM trO rdT wrT clT clL adT Tr.clash isTr isRd xR
attribute [congr] NWK_congr vcN_congr callN_congr vcR_congr alR_congr stU_congr
theorem pt_apply {r r' : AV} {H' : List HO} : pt r H r' H' = (r' = r ∧ H' = H) := _root_.id rfl
/-- what follows the first of two -/
def seqK (P : Program) (M : List Nat) (b : Code) (Q : Ex → Env → List HO → Prop) : Ex → Env → List HO → Prop := fun x e H => match x with | .normal => vc P M b Q e H | x => Q x e H
theorem ngK_normal : ngK Q .normal e H = Q .normal e H := _root_.id rfl
theorem ngK_exit {i : Nat} : ngK Q (.exit i) e H = Q (.exit i) e H := _root_.id rfl
theorem ngK_ret : ngK Q .ret e H = Q .ret e H := _root_.id rfl
theorem ngK_goto {l : Nat} : ngK Q (.goto l) e H = False := _root_.id rfl
theorem vc_goto {l : Nat} : vc P M (.goto l) Q e H = Q (.goto l) e H := _root_.id rfl
theorem vc_scope {c : Code} : vc P M (.scope c) Q e H = wgK (hasGoto c) (fun _ => SC P M c Q e H) (fun _ => vc P M c (ngK Q) e H) := _root_.id rfl
theorem jmpK_normal {l : Nat} {G : Env → List HO → Prop} : jmpK l G Q .normal e H = Q .normal e H := _root_.id rfl
theorem jmpK_exit {l i : Nat} {G : Env → List HO → Prop} : jmpK l G Q (.exit i) e H = Q (.exit i) e H := _root_.id rfl
theorem jmpK_ret {l : Nat} {G : Env → List HO → Prop} : jmpK l G Q .ret e H = Q .ret e H := _root_.id rfl
theorem jmpK_goto {l l' : Nat} {G : Env → List HO → Prop} : jmpK l G Q (.goto l') e H = (l' = l ∧ G e H) := _root_.id rfl
/-- ahead of a label -/
def pSeqK (P : Program) (M : List Nat) (b : Code) (l : Nat) (K : Env → List HO → Prop) (Q : Ex → Env → List HO → Prop) : Ex → Env → List HO → Prop := fun x e H => match x with | .normal => preVc P M b l K Q e H | x => Q x e H
theorem pSeqK_normal {b : Code} {l : Nat} {K : Env → List HO → Prop} : pSeqK P M b l K Q .normal e H = preVc P M b l K Q e H := _root_.id rfl
theorem pSeqK_exit {b : Code} {l i : Nat} {K : Env → List HO → Prop} : pSeqK P M b l K Q (.exit i) e H = Q (.exit i) e H := _root_.id rfl
theorem pSeqK_ret {b : Code} {l : Nat} {K : Env → List HO → Prop} : pSeqK P M b l K Q .ret e H = Q .ret e H := _root_.id rfl
theorem pSeqK_goto {b : Code} {l l' : Nat} {K : Env → List HO → Prop} : pSeqK P M b l K Q (.goto l') e H = Q (.goto l') e H := _root_.id rfl
theorem preVc_seq {x y : Code} {l : Nat} {K : Env → List HO → Prop} : preVc P M (.seq x y) l K Q e H = wgK (findLabel x l).isSome (fun _ => preVc P M x l K Q e H) (fun _ => vc P M x (pSeqK P M y l K Q) e H) := _root_.id rfl
theorem preVc_label {l l' : Nat} {K : Env → List HO → Prop} : preVc P M (.label l') l K Q e H = K e H := _root_.id rfl
theorem restVc_seq {x y : Code} {l : Nat} : restVc P M (.seq x y) l Q e H = wgK (findLabel x l).isSome (fun _ => restVc P M x l (seqK P M y Q) e H) (fun _ => restVc P M y l Q e H) := _root_.id rfl
theorem restVc_label {l l' : Nat} : restVc P M (.label l') l Q e H = Q .normal e H := _root_.id rfl
def blkK (id : Nat) (Q : Ex → Env → List HO → Prop) : Ex → Env → List HO → Prop := fun x e H => match x with | .exit i => if i = id then Q .normal e H else Q (.exit i) e H | x => Q x e H
theorem vc_seq {a b : Code} : vc P M (.seq a b) Q e H = vc P M a (seqK P M b Q) e H := _root_.id rfl
theorem vc_cond {c : Operand} {t f : Code} : vc P M (.cond c t f) Q e H = condK (evA e c) (vcU P M t Q e H) (vcU P M f Q e H) := _root_.id rfl
theorem vc_block {id : Nat} {c : Code} : vc P M (.block id c) Q e H = vc P M c (blkK id Q) e H := _root_.id rfl
theorem vc_exit {id : Nat} : vc P M (.exit id) Q e H = Q (.exit id) e H := _root_.id rfl
theorem vc_ret : vc P M .ret Q e H = Q .ret e H := _root_.id rfl
theorem seqK_normal {b : Code} : seqK P M b Q .normal e H = vc P M b Q e H := _root_.id rfl
theorem seqK_exit {b : Code} {i : Nat} : seqK P M b Q (.exit i) e H = Q (.exit i) e H := _root_.id rfl
theorem seqK_ret {b : Code} : seqK P M b Q .ret e H = Q .ret e H := _root_.id rfl
theorem blkK_normal {id : Nat} : blkK id Q .normal e H = Q .normal e H := _root_.id rfl
theorem blkK_exit {id i : Nat} : blkK id Q (.exit i) e H = if i = id then Q .normal e H else Q (.exit i) e H := _root_.id rfl
theorem blkK_ret {id : Nat} : blkK id Q .ret e H = Q .ret e H := _root_.id rfl
theorem seqK_goto {b : Code} {l : Nat} : seqK P M b Q (.goto l) e H = Q (.goto l) e H := _root_.id rfl
theorem blkK_goto {id l : Nat} : blkK id Q (.goto l) e H = Q (.goto l) e H := _root_.id rfl
theorem seqK_congr {b : Code} {x x' : Ex} {e e' : Env} {H H' : List HO} (h0 : x = x') (h1 : e = e') (h2 : H = H') : seqK P M b Q x e H = seqK P M b Q x' e' H' := by rw [h0, h1, h2]
theorem blkK_congr {id : Nat} {x x' : Ex} {e e' : Env} {H H' : List HO} (h0 : x = x') (h1 : e = e') (h2 : H = H') : blkK id Q x e H = blkK id Q x' e' H' := by rw [h0, h1, h2]
end eqs

section ops
variable {P : Program} {M : List Nat} {d : Bool} {ops : Array Oper} {e : Env} {H : List HO} {E : Ev} {K : AV → List HO → Prop} {dst : Option Nat} {ty : Nat} {pos : String} {after : Array Edge} {g : Option (Nat × Bool)}
theorem vcOps_nil {K : Env → List HO → Prop} : vcOps P M d ops [] K e H = K e H := _root_.id rfl
/-- what follows an operation -/
def opsK (P : Program) (M : List Nat) (d : Bool) (ops : Array Oper) (os : List Oper) (K : Env → List HO → Prop) (e : Env) (dst : Option Nat) : AV → List HO → Prop := fun r H' => vcOps P M d ops os K (updo e dst r) H'
theorem opsK_apply {K : Env → List HO → Prop} {os : List Oper} {r : AV} : opsK P M d ops os K e dst r H = vcOps P M d ops os K (updo e dst r) H := _root_.id rfl
theorem vcOps_cons {K : Env → List HO → Prop} {o : Oper} {os : List Oper} : vcOps P M d ops (o :: os) K e H = vcG P M d ops o e H (opsK P M d ops os K e o.dst) := _root_.id rfl
theorem vcG_none {op : Op} : vcG P M d ops ⟨dst, op, ty, pos, after, none⟩ e H K = vcOp P M d ⟨dst, op, ty, pos, after, none⟩ (evA e) H K := _root_.id rfl
theorem vcOp_move {x : Operand} : vcOp P M d ⟨dst, .move x, ty, pos, after, g⟩ E H K = K (E x) H := by simp [vcOp, lenM, vcOp0, isP, psOp, pvOp]
theorem vcOp_assign {x : Operand} : vcOp P M d ⟨dst, .assign x, ty, pos, after, g⟩ E H K = K (E x) H := by simp [vcOp, lenM, vcOp0, isP, psOp, pvOp]
theorem vcOp_nilCheck {x : Operand} : vcOp P M d ⟨dst, .nilCheck x, ty, pos, after, g⟩ E H K = (nchkS (E x) ∧ K (E x) H) := _root_.id rfl
theorem vcOp_pick {c a b : Operand} : vcOp P M d ⟨dst, .pick c a b, ty, pos, after, g⟩ E H K = (pickS (E c) (E a) (E b) ∧ K (pickV (E c) (E a) (E b)) H) := _root_.id rfl
theorem vcOp_binOp {op : BinOp} {t t2 : Nat} {x y : Operand} : vcOp P M d ⟨dst, .binOp op t x y t2, ty, pos, after, g⟩ E H K = (binS P op t (E x) (E y) ∧ K (binV op (E x) (E y)) H) := _root_.id rfl
theorem vcOp_unOp {op : UnOp} {t : Nat} {x : Operand} : vcOp P M d ⟨dst, .unOp op t x, ty, pos, after, g⟩ E H K = (unS op (E x) ∧ K (unV op (E x)) H) := _root_.id rfl
theorem vcOp_convert {s t : Nat} {x : Operand} : vcOp P M d ⟨dst, .convert s t x, ty, pos, after, g⟩ E H K = (cvS P s t (E x) ∧ K (cvV P s t (E x)) H) := _root_.id rfl
theorem vcOp_load {t : Nat} {x : Operand} : vcOp P M d ⟨dst, .load t x, ty, pos, after, g⟩ E H K = (ldpS P t (E x) H ∧ K (ldpV P t (E x) H) H) := _root_.id rfl
theorem vcOp_fieldAddr {s f : Nat} {x : Operand} : vcOp P M d ⟨dst, .fieldAddr s x f, ty, pos, after, g⟩ E H K = (faS P s (E x) f ∧ K (faV P s (E x) f) H) := _root_.id rfl
theorem vcOp_field {s f : Nat} {x : Operand} : vcOp P M d ⟨dst, .field s x f, ty, pos, after, g⟩ E H K = (fdS P s (E x) f ∧ K (fdV P s (E x) f) H) := _root_.id rfl
theorem vcOp_indexAddr {t : Nat} {x i : Operand} : vcOp P M d ⟨dst, .indexAddr t x i, ty, pos, after, g⟩ E H K = (iaS P t (E x) (E i) ∧ K (iaV P t (E x) (E i)) H) := _root_.id rfl
theorem vcOp_index {t : Nat} {x i : Operand} : vcOp P M d ⟨dst, .index t x i, ty, pos, after, g⟩ E H K = (ixS P t (E x) (E i) ∧ K (ixV P t (E x) (E i)) H) := _root_.id rfl
theorem vcOp_slice {t : Nat} {x : Operand} {lo hi mx : Option Operand} : vcOp P M d ⟨dst, .slice t x lo hi mx, ty, pos, after, g⟩ E H K = (slcS P t (E x) (lo.map E) (hi.map E) (mx.map E) ∧ K (slcV (E x) (lo.map E) (hi.map E) (mx.map E)) H) := _root_.id rfl
theorem vcOp_extract {x : Operand} {i : Nat} : vcOp P M d ⟨dst, .extract x i, ty, pos, after, g⟩ E H K = (exS (E x) i ∧ K (exV (E x) i) H) := _root_.id rfl
theorem vcOp_build {t : Nat} {parts : Array (Nat × Operand)} : vcOp P M d ⟨dst, .build t parts, ty, pos, after, g⟩ E H K = (bldS P t (parts.toList.map fun p => (p.1, E p.2)) ∧ K (bldV P t (parts.toList.map fun p => (p.1, E p.2))) H) := _root_.id rfl
theorem vcOp_buildSlice {t n : Nat} {parts : Array (Nat × Operand)} : vcOp P M d ⟨dst, .buildSlice t n parts, ty, pos, after, g⟩ E H K = (bslS P t n (parts.toList.map fun p => (p.1, E p.2)) ∧ K (bslV P t n (parts.toList.map fun p => (p.1, E p.2))) H) := _root_.id rfl
theorem vcOp_box {t : Nat} {x : Operand} : vcOp P M d ⟨dst, .box t x, ty, pos, after, g⟩ E H K = ((E x).okc = true ∧ K (.ptr H.length 0) (H ++ [.box (E x).cells])) := _root_.id rfl
theorem vcOp_makeFunc {fn : Fn} {first captured : Array Operand} : vcOp P M d ⟨dst, .makeFunc fn first captured, ty, pos, after, g⟩ E H K = K (.fn fn (first.toList.map E) (captured.toList.map E)) H := _root_.id rfl
def allocK (z : Option AV) (H : List HO) (K : AV → List HO → Prop) : Prop := match z with | some z => z.okc = true ∧ K (.ptr H.length 0) (H ++ [.box z.cells]) | none => False
theorem vcOp_alloc {t : Nat} : vcOp P M d ⟨dst, .alloc t, ty, pos, after, g⟩ E H K = allocK (zOf P t) H K := _root_.id rfl
theorem allocK_some {z : AV} : allocK (some z) H K = (z.okc = true ∧ K (.ptr H.length 0) (H ++ [.box z.cells])) := _root_.id rfl
def storeK (P : Program) (t : Nat) (a x : AV) (H : List HO) (K : AV → List HO → Prop) : Prop :=
  match a with
  | .ptr i off => match H[i]? with
    | some (.box cs) => x.okc = true ∧ szOf P t = some x.cells.length ∧ off + x.cells.length ≤ cs.length ∧ K .any (H.set i (.box (splice cs off x.cells)))
    | _ => False
  | .eptr i n off => match H[i]? with
    | some (.row m sz cs) => m = n ∧ x.okc = true ∧ szOf P t = some x.cells.length ∧ off + x.cells.length ≤ cs.length ∧ K .any (H.set i (.row n sz (splice cs off x.cells)))
    | _ => False
  | _ => False
theorem vcOp_store {t : Nat} {a x : Operand} : vcOp P M d ⟨dst, .store t a x, ty, pos, after, g⟩ E H K = storeK P t (E a) (E x) H K := _root_.id rfl
theorem storeK_congr {t : Nat} {a a' x x' : AV} {H H' : List HO} (h0 : a = a') (h1 : x = x') (h2 : H = H') : storeK P t a x H K = storeK P t a' x' H' K := by rw [h0, h1, h2]
def stK (P : Program) (t i off : Nat) (o : Option HO) (x : AV) (H : List HO) (K : AV → List HO → Prop) : Prop :=
  match o with
  | some (.box cs) => x.okc = true ∧ szOf P t = some x.cells.length ∧ off + x.cells.length ≤ cs.length ∧ K .any (H.set i (.box (splice cs off x.cells)))
  | _ => False
theorem storeK_ptr {t i off : Nat} {x : AV} : storeK P t (.ptr i off) x H K = stK P t i off H[i]? x H K := _root_.id rfl
theorem stK_congr {t i off : Nat} {o o' : Option HO} {x x' : AV} {H H' : List HO} (h0 : o = o') (h1 : x = x') (h2 : H = H') : stK P t i off o x H K = stK P t i off o' x' H' K := by rw [h0, h1, h2]
theorem stK_some {t i off : Nat} {cs : List AV} {x : AV} : stK P t i off (some (.box cs)) x H K = (x.okc = true ∧ szOf P t = some x.cells.length ∧ off + x.cells.length ≤ cs.length ∧ K .any (H.set i (.box (splice cs off x.cells)))) := _root_.id rfl
def estK (P : Program) (t i n off : Nat) (o : Option HO) (x : AV) (H : List HO) (K : AV → List HO → Prop) : Prop :=
  match o with
  | some (.row m sz cs) => m = n ∧ x.okc = true ∧ szOf P t = some x.cells.length ∧ off + x.cells.length ≤ cs.length ∧ K .any (H.set i (.row n sz (splice cs off x.cells)))
  | _ => False
theorem storeK_eptr {t i n off : Nat} {x : AV} : storeK P t (.eptr i n off) x H K = estK P t i n off H[i]? x H K := _root_.id rfl
theorem estK_congr {t i n n' off off' : Nat} {o o' : Option HO} {x x' : AV} {H H' : List HO} (hn : n = n') (hoff : off = off') (h0 : o = o') (h1 : x = x') (h2 : H = H') : estK P t i n off o x H K = estK P t i n' off' o' x' H' K := by rw [hn, hoff, h0, h1, h2]
theorem estK_some {t i n m sz off : Nat} {cs : List AV} {x : AV} : estK P t i n off (some (.row m sz cs)) x H K = (m = n ∧ x.okc = true ∧ szOf P t = some x.cells.length ∧ off + x.cells.length ≤ cs.length ∧ K .any (H.set i (.row n sz (splice cs off x.cells)))) := _root_.id rfl
/-- a call, by what is called -/
def callK (P : Program) (d : Bool) (f : AV) (xs : List AV) (H : List HO) (K : AV → List HO → Prop) : Prop :=
  match f with
  | .fn (.func f) first captured => if d = true then ∃ r, TD P f (first ++ xs ++ captured) r ∧ K r H else TS P f (first ++ xs ++ captured) H K
  | _ => False
theorem vcOp_call {x : Operand} {xs : Array Operand} {ts : Array TypeId} : vcOp P M d ⟨dst, .call { callee := .value x, args := xs, argTypes := ts }, ty, pos, after, g⟩ E H K = callK P d (E x) (xs.toList.map E) H K := _root_.id rfl
theorem callK_congr {f f' : AV} {xs xs' : List AV} {H H' : List HO} (h0 : f = f') (h1 : xs = xs') (h2 : H = H') : callK P d f xs H K = callK P d f' xs' H' K := by rw [h0, h1, h2]
/-- a call that may come in another order -/
def TDK (P : Program) (f : FuncId) (xs : List AV) (H : List HO) (K : AV → List HO → Prop) : Prop := ∃ r, TD P f xs r ∧ K r H
theorem TDK_congr {f : FuncId} {xs xs' : List AV} {H H' : List HO} (h1 : xs = xs') (h2 : H = H') : TDK P f xs H K = TDK P f xs' H' K := by rw [h1, h2]
theorem callK_f {f : FuncId} {first captured xs : List AV} : callK P false (.fn (.func f) first captured) xs H K = TS P f (first ++ xs ++ captured) H K := _root_.id rfl
theorem callK_t {f : FuncId} {first captured xs : List AV} : callK P true (.fn (.func f) first captured) xs H K = TDK P f (first ++ xs ++ captured) H K := _root_.id rfl
theorem TDK.of {f : FuncId} {xs ys : List AV} {r : AV} (h : T P f ys r) (hc : Cls xs ys) (hk : K r H) : TDK P f xs H K := ⟨r, TD.of_T h hc, hk⟩
/-- len: of a value, or of a map -/
def lenK (P : Program) (d : Bool) (ts : Array TypeId) (xs : List AV) (H : List HO) (K : AV → List HO → Prop) : Prop :=
  match xs with
  | [.map id] => d = false ∧ lenMK P ts id H K
  | xs => biS P .len ts xs ∧ K (biV .len xs) H
theorem lenK_congr {ts : Array TypeId} {xs xs' : List AV} {H H' : List HO} (h1 : xs = xs') (h2 : H = H') : lenK P d ts xs H K = lenK P d ts xs' H' K := by rw [h1, h2]
theorem lenK_sl {ts : Array TypeId} {o : Own} {ys : List AV} : lenK P d ts [.sl o ys] H K = (biS P .len ts [.sl o ys] ∧ K (biV .len [.sl o ys]) H) := _root_.id rfl
theorem lenK_str {ts : Array TypeId} {s : ByteArray} : lenK P d ts [.str s] H K = (biS P .len ts [.str s] ∧ K (biV .len [.str s]) H) := _root_.id rfl
theorem lenK_mv {ts : Array TypeId} {a b c f g : Nat} : lenK P d ts [.mv a b c f g] H K = (biS P .len ts [.mv a b c f g] ∧ K (biV .len [.mv a b c f g]) H) := _root_.id rfl
theorem lenK_map {ts : Array TypeId} {id : Nat} {es : List (AV × AV)} {c : Option Nat} {t kt et : TypeId} (hi : H[id]? = some (.mp es c)) (ht : ts[0]? = some t) (hu : P.underlying t = some (.map kt et)) (hk : K (.int .i64 es.length) H) : lenK P false ts [.map id] H K := ⟨rfl, by unfold lenMK; rw [ht]; dsimp only; rw [hu]; dsimp only; rw [hi]; exact hk⟩
theorem vcOp_len {xs : Array Operand} {ts : Array TypeId} : vcOp P M d ⟨dst, .call { callee := .builtin .len, args := xs, argTypes := ts }, ty, pos, after, g⟩ E H K = lenK P d ts (xs.toList.map E) H K := by
  unfold vcOp lenM lenK
  dsimp only
  split
  · rename_i p h
    split at h
    · rename_i id hid; cases h; rw [hid]
    · cases h
  · rename_i h
    split at h
    · cases h
    · rename_i hne
      split
      · rename_i id hid; exact absurd hid (hne id)
      · unfold vcOp0; simp only [isP, psOp, pvOp, if_true]
theorem vcOp_min {xs : Array Operand} {ts : Array TypeId} : vcOp P M d ⟨dst, .call { callee := .builtin .min, args := xs, argTypes := ts }, ty, pos, after, g⟩ E H K = (biS P .min ts (xs.toList.map E) ∧ K (biV .min (xs.toList.map E)) H) := _root_.id rfl
theorem vcOp_max {xs : Array Operand} {ts : Array TypeId} : vcOp P M d ⟨dst, .call { callee := .builtin .max, args := xs, argTypes := ts }, ty, pos, after, g⟩ E H K = (biS P .max ts (xs.toList.map E) ∧ K (biV .max (xs.toList.map E)) H) := _root_.id rfl

theorem vcOp_append {x y : Operand} {t t' : TypeId} : vcOp P M d ⟨dst, .call { callee := .builtin .append, args := #[x, y], argTypes := #[t, t'] }, ty, pos, after, g⟩ E H K = (appS P t t' (rowM M dst) (E x).ex (E y) H ∧ K (appV P t (rowM M dst) (E x).ex (E y) H) (appH P t (rowM M dst) (E x).ex (E y) H)) := _root_.id rfl
theorem vcOp_copy {x y : Operand} {t t' : TypeId} : vcOp P M d ⟨dst, .call { callee := .builtin .copy, args := #[x, y], argTypes := #[t, t'] }, ty, pos, after, g⟩ E H K = (cpS P t (E x) (E y) H ∧ K (cpV (E x) (E y)) (cpH (E x) (E y) H)) := _root_.id rfl
theorem vcOp_clear {x : Operand} {t : TypeId} : vcOp P M d ⟨dst, .call { callee := .builtin .clear, args := #[x], argTypes := #[t] }, ty, pos, after, g⟩ E H K = (clS P t (E x) H ∧ K .any (clH P t (E x) H)) := _root_.id rfl
theorem vcOp_delete {x y : Operand} {t t' : TypeId} : vcOp P M d ⟨dst, .call { callee := .builtin .delete, args := #[x, y], argTypes := #[t, t'] }, ty, pos, after, g⟩ E H K = (delS P t (E x) (E y) H ∧ K .any (delH (E x) (E y) H)) := _root_.id rfl
theorem vcOp_makeSlice {t : TypeId} {l c : Operand} : vcOp P M d ⟨dst, .makeSlice t l c, ty, pos, after, g⟩ E H K = (mkS P t (E l) (E c) ∧ K (mkV P t (E l) H) (mkH P t (E l) H)) := _root_.id rfl
theorem vcOp_makeMap {t : TypeId} : vcOp P M d ⟨dst, .makeMap t none, ty, pos, after, g⟩ E H K = (True ∧ K (.map H.length) (H ++ [.mp [] (some 0)])) := _root_.id rfl
theorem vcOp_lookup {t : TypeId} {m k : Operand} {ok : Bool} : vcOp P M d ⟨dst, .lookup t m k ok, ty, pos, after, g⟩ E H K = (lkS P t (E m) (E k) H ∧ K (lkV P t (E m) (E k) ok H) H) := _root_.id rfl
theorem vcOp_mapUpdate {t : TypeId} {m k x : Operand} : vcOp P M d ⟨dst, .mapUpdate t m k x, ty, pos, after, g⟩ E H K = (muS P t (E m) (E k) H ∧ K .any (muH (E m) (E k) (E x) H)) := _root_.id rfl
theorem vcOp_insert {t : TypeId} {m k x : Operand} : vcOp P M d ⟨dst, .insert t m k x, ty, pos, after, g⟩ E H K = (muS P t (E m) (E k) H ∧ K .any (muH (E m) (E k) (E x) H)) := _root_.id rfl
theorem vcOp_mapEntry {t : TypeId} {m k : Operand} : vcOp P M d ⟨dst, .mapEntry t m k, ty, pos, after, g⟩ E H K = (meS P t (E m) (E k) H ∧ K (meV P t (E m) (E k) H) (meH P t (E m) (E k) H)) := _root_.id rfl
theorem vcOp_entryStore {t : TypeId} {m s x : Operand} : vcOp P M d ⟨dst, .entryStore t m s x, ty, pos, after, g⟩ E H K = (esS (E m) (E s) H ∧ K .any (esH (E m) (E s) (E x) H)) := _root_.id rfl
theorem vcOp_range {t : TypeId} {x : Operand} : vcOp P M d ⟨dst, .range t x, ty, pos, after, g⟩ E H K = rangeK P t (E x) H K := _root_.id rfl
theorem vcOp_next {s : Bool} {x : Operand} : vcOp P M d ⟨dst, .next x s, ty, pos, after, g⟩ E H K = nextK d s (E x) H K := _root_.id rfl
theorem vcOp_entry {x : Operand} : vcOp P M d ⟨dst, .entry x, ty, pos, after, g⟩ E H K = entryK d (E x) H K := _root_.id rfl
theorem rangeK_congr {t : TypeId} {x x' : AV} {H H' : List HO} (h0 : x = x') (h1 : H = H') : rangeK P t x H K = rangeK P t x' H' K := by rw [h0, h1]
theorem rangeK_map {t : TypeId} {id : Nat} : rangeK P t (.map id) H K = rgK P t id H[id]? H K := _root_.id rfl
theorem rgK_congr {t : TypeId} {id : Nat} {o o' : Option HO} {H H' : List HO} (h0 : o = o') (h1 : H = H') : rgK P t id o H K = rgK P t id o' H' K := by rw [h0, h1]
theorem rgK_some {t : TypeId} {id k : Nat} {es : List (AV × AV)} : rgK P t id (some (.mp es (some k))) H K = (mapT P t ∧ K (.ptr H.length 0) (H ++ [.it id k es.length []])) := _root_.id rfl
theorem nextK_congr {s : Bool} {x x' : AV} {H H' : List HO} (h0 : x = x') (h1 : H = H') : nextK d s x H K = nextK d s x' H' K := by rw [h0, h1]
theorem nextK_ptr {i : Nat} : nextK false false (.ptr i 0) H K = nxK i H[i]? H K := by simp [nextK]
theorem nxK_congr {i : Nat} {o o' : Option HO} {H H' : List HO} (h0 : o = o') (h1 : H = H') : nxK i o H K = nxK i o' H' K := by rw [h0, h1]
theorem nxK_some {i m k n : Nat} {seen : List Nat} : nxK i (some (.it m k n seen)) H K = nx2K i m k n seen H[m]? H K := _root_.id rfl
theorem nx2K_congr {i m k n : Nat} {seen : List Nat} {o o' : Option HO} {H H' : List HO} (h0 : o = o') (h1 : H = H') : nx2K i m k n seen o H K = nx2K i m k n seen o' H' K := by rw [h0, h1]
/-- the next one: it is told later -/
theorem nx2K.intro {i m k n : Nat} {seen : List Nat} {es : List (AV × AV)} (hn : es.length = n) (h1 : (∀ j, j < n → j ∈ seen) → K (.tup [.bool false]) H) (h2 : ∀ j e, es[j]? = some e → j ∉ seen → K (.tup [.bool true, e.1, e.2]) (H.set i (.it m k n (seen ++ [j])))) : nx2K i m k n seen (some (.mp es (some k))) H K := ⟨rfl, hn, h1, h2⟩
theorem entryK_congr {x x' : AV} {H H' : List HO} (h0 : x = x') (h1 : H = H') : entryK d x H K = entryK d x' H' K := by rw [h0, h1]
theorem entryK_ptr {i : Nat} : entryK false (.ptr i 0) H K = enK H[i]? H K := by simp [entryK]
theorem enK_congr {o o' : Option HO} {H H' : List HO} (h0 : o = o') (h1 : H = H') : enK o H K = enK o' H' K := by rw [h0, h1]
theorem enK_some {m k n : Nat} {seen : List Nat} : enK (some (.it m k n seen)) H K = en2K k n seen H[m]? H K := _root_.id rfl
theorem en2K_congr {k n : Nat} {seen : List Nat} {o o' : Option HO} {H H' : List HO} (h0 : o = o') (h1 : H = H') : en2K k n seen o H K = en2K k n seen o' H' K := by rw [h0, h1]
theorem en2K_some {k n j : Nat} {s : List Nat} {es : List (AV × AV)} {e : AV × AV} (he : es[j]? = some e) (hn : es.length = n) : en2K k n (s ++ [j]) (some (.mp es (some k))) H K = K (.tup [e.1, e.2]) H := by
  unfold en2K
  refine propext ⟨?_, fun h => ⟨rfl, hn, s, j, e, rfl, he, h⟩⟩
  rintro ⟨_, _, s', j', e', hs, he', h⟩
  have := List.append_inj' hs rfl
  simp at this
  obtain ⟨_, rfl⟩ := this
  rw [he] at he'
  cases he'
  exact h
theorem evA_tmp {t : Nat} : evA e (.tmp t) = e t := rfl
theorem evA_const {v : Value} : evA e (.const v) = AV.ofConst v := rfl
@[simp] theorem ofConst_int {k : IntKind} {n : Int} : AV.ofConst (.int k n) = .int k n := rfl
@[simp] theorem ofConst_bool {b : Bool} : AV.ofConst (.bool b) = .bool b := rfl
@[simp] theorem ofConst_string {s : ByteArray} : AV.ofConst (.string s) = .str s := rfl
@[simp] theorem ofConst_slice : AV.ofConst (.slice none 0 0) = .sl .nil [] := rfl
@[simp] theorem ofConst_pointer : AV.ofConst (.pointer none) = .nilp := rfl
@[simp] theorem ofConst_map : AV.ofConst (.map none) = .nilm := rfl
@[simp] theorem ofConst_nilFunc : AV.ofConst .nilFunc = .nilf := rfl
@[simp] theorem ofConst_nilIface : AV.ofConst .nilIface = .nili := rfl
@[simp] theorem ofConst_agg {cs : Array Value} : AV.ofConst (.agg cs) = AV.ofVal (.agg cs) := rfl
@[simp] theorem ex_nil {xs : List AV} : (AV.sl .nil xs).ex = .sl .exact xs := rfl
@[simp] theorem ex_exact {xs : List AV} : (AV.sl .exact xs).ex = .sl .exact xs := rfl
@[simp] theorem ex_no {xs : List AV} : (AV.sl .no xs).ex = .sl .no xs := rfl
@[simp] theorem ex_tok {t : Nat} {xs : List AV} : (AV.sl (.tok t) xs).ex = .sl (.tok t) xs := rfl
@[simp] theorem ex_mv {a b c d f : Nat} : (AV.mv a b c d f).ex = .mv a b c d f := rfl
theorem condK_ub {A B : Unit → Prop} : condK .ub A B = (A () ∧ B ()) := _root_.id rfl
theorem evA_func {f : FuncId} : evA e (.func f) = .fn (.func f) [] [] := rfl
theorem updo_some {t : Nat} {v : AV} : updo e (some t) v = upd e t v := rfl
theorem updo_none {v : AV} : updo e none v = e := rfl
theorem upd_apply {t t' : Nat} {v : AV} : upd e t v t' = if t' = t then v else e t' := rfl
end ops

/-- a function's end -/
def bodyK (P : Program) (N : Nat) (rs : List ResultVar) (K : AV → List HO → Prop) : Ex → Env → List HO → Prop := fun x e H => match x with | .exit _ => False | .goto _ => False | _ => resS P N rs e H ∧ K (oneV (resV P rs e H)) H
theorem bodyK_normal {P : Program} {N : Nat} {rs : List ResultVar} {K : AV → List HO → Prop} {e : Env} {H : List HO} : bodyK P N rs K .normal e H = (resS P N rs e H ∧ K (oneV (resV P rs e H)) H) := _root_.id rfl
theorem bodyK_ret {P : Program} {N : Nat} {rs : List ResultVar} {K : AV → List HO → Prop} {e : Env} {H : List HO} : bodyK P N rs K .ret e H = (resS P N rs e H ∧ K (oneV (resV P rs e H)) H) := _root_.id rfl
theorem TS.bodyM {P : Program} (M : List Nat) {f : FuncId} {fn : Func} {c : Code} {args : List AV} {H : List HO} {K : AV → List HO → Prop} (hmix : P.follows .mixedOrders = true) (hf : P.funcs[f]? = some fn) (hn : (fn.name == "runtime.NumGoroutine") = false)
    (hb : fn.body = some c) (hok : codeOk M fn.ntmps c = true) (hlen : args.length ≤ fn.ntmps) (h : vc P M c (bodyK P fn.ntmps fn.results.toList K) (envOf args) H) : TS P f args H K := TS.of_body hmix hf hn hb hok hlen h
theorem TS.body {P : Program} {f : FuncId} {fn : Func} {c : Code} {args : List AV} {H : List HO} {K : AV → List HO → Prop} (hmix : P.follows .mixedOrders = true) (hf : P.funcs[f]? = some fn) (hn : (fn.name == "runtime.NumGoroutine") = false)
    (hb : fn.body = some c) (hok : codeOk [] fn.ntmps c = true) (hlen : args.length ≤ fn.ntmps) (h : vc P [] c (bodyK P fn.ntmps fn.results.toList K) (envOf args) H) : TS P f args H K := TS.of_body (M := []) hmix hf hn hb hok hlen h
attribute [simp] bodyK_normal bodyK_ret

attribute [congr] rangeK_congr rgK_congr nextK_congr nxK_congr nx2K_congr entryK_congr enK_congr en2K_congr vc_congr wgK_congr vcW_congr TWG_congr callWK_congr TWK_congr vcOps_congr regK_congr vcD_congr vcG_congr vcOp_congr lenK_congr TS_congr condK_congr seqK_congr blkK_congr storeK_congr stK_congr estK_congr callK_congr TDK_congr
attribute [simp] vcOp_range vcOp_next vcOp_entry rangeK_map rgK_some nextK_ptr nxK_some entryK_ptr enK_some mapT regK_true regK_false dK_apply depM mkW dW_apply callWK_fn vcW_call vcW_callG wgK_true wgK_false vcD_nil vcD_cons pt_apply isLd isW xW condK_true condK_false vc_skip vc_scope vc_label vc_region vc_seq vc_cond vc_block vc_exit vc_ret seqK_normal seqK_exit seqK_ret seqK_goto blkK_goto ngK_normal ngK_exit ngK_ret ngK_goto vc_goto hasGoto jmpK_normal jmpK_exit jmpK_ret jmpK_goto pSeqK_normal pSeqK_exit pSeqK_ret pSeqK_goto preVc_seq preVc_label restVc_seq restVc_label findLabel blkK_normal blkK_exit blkK_ret vcOps_nil vcOps_cons opsK_apply vcG_none vcOp_move vcOp_assign vcOp_nilCheck vcOp_pick vcOp_binOp vcOp_unOp vcOp_convert vcOp_load vcOp_fieldAddr vcOp_field vcOp_indexAddr vcOp_index vcOp_slice vcOp_extract vcOp_build vcOp_buildSlice vcOp_box vcOp_makeFunc vcOp_alloc allocK_some vcOp_store storeK_ptr stK_some storeK_eptr estK_some vcOp_call callK_f callK_t vcOp_append rowM srcN srcC srcS appT szA vcOp_copy vcOp_clear vcOp_delete vcOp_makeSlice vcOp_makeMap vcOp_lookup vcOp_mapUpdate vcOp_insert vcOp_mapEntry vcOp_entryStore cpS cpV cpN cpH clS clH delS delH mkS mkV mkH zsA intN lkS lkV foundV muS muH meS meV meH esS esH vcOp_len lenK_sl lenK_str lenK_mv vcOp_min vcOp_max evA_tmp evA_const evA_func updo_some updo_none upd_apply condK_ub nilV
attribute [simp] nchkS ldpV ldpS ldV ldS loadV loadS faV faS fdV fdS iaV iaS ixV ixS slcV slcS exV exS biV biS lenV lenS mnV mxV mmS unV unS binV binS intBin intBinS strBin strBinS eqOp pickV pickS ifAV AV.ofVal AV.ofCell isInt intOr resS resV oneV envOf splice

@[simp] theorem okc_any : AV.okc .any = false := rfl
@[simp] theorem one_any : AV.one .any = false := rfl
@[simp] theorem cells_any : AV.cells .any = [.any] := rfl
@[simp] theorem un_any : AV.un .any = .any := rfl
@[simp] theorem optB_any : AV.optB .any = true := rfl
@[simp] theorem okc_bool {b : Bool} : AV.okc (.bool b) = true := rfl
@[simp] theorem one_bool {b : Bool} : AV.one (.bool b) = true := rfl
@[simp] theorem cells_bool {b : Bool} : AV.cells (.bool b) = [.bool b] := rfl
@[simp] theorem un_bool {b : Bool} : AV.un (.bool b) = (.bool b) := rfl
@[simp] theorem optB_bool {b : Bool} : AV.optB (.bool b) = true := rfl
@[simp] theorem okc_int {k : IntKind} {n : Int} : AV.okc (.int k n) = true := rfl
@[simp] theorem one_int {k : IntKind} {n : Int} : AV.one (.int k n) = true := rfl
@[simp] theorem cells_int {k : IntKind} {n : Int} : AV.cells (.int k n) = [.int k n] := rfl
@[simp] theorem un_int {k : IntKind} {n : Int} : AV.un (.int k n) = (.int k n) := rfl
@[simp] theorem optB_int {k : IntKind} {n : Int} : AV.optB (.int k n) = true := rfl
@[simp] theorem okc_str {s : ByteArray} : AV.okc (.str s) = true := rfl
@[simp] theorem one_str {s : ByteArray} : AV.one (.str s) = true := rfl
@[simp] theorem cells_str {s : ByteArray} : AV.cells (.str s) = [.str s] := rfl
@[simp] theorem un_str {s : ByteArray} : AV.un (.str s) = (.str s) := rfl
@[simp] theorem optB_str {s : ByteArray} : AV.optB (.str s) = true := rfl
@[simp] theorem okc_agg {cs : List AV} : AV.okc (.agg cs) = true := rfl
@[simp] theorem one_agg {cs : List AV} : AV.one (.agg cs) = false := rfl
@[simp] theorem cells_agg {cs : List AV} : AV.cells (.agg cs) = cs := rfl
@[simp] theorem un_agg {cs : List AV} : AV.un (.agg cs) = (.agg cs) := rfl
@[simp] theorem optB_agg {cs : List AV} : AV.optB (.agg cs) = true := rfl
@[simp] theorem okc_tup {cs : List AV} : AV.okc (.tup cs) = false := rfl
@[simp] theorem one_tup {cs : List AV} : AV.one (.tup cs) = false := rfl
@[simp] theorem cells_tup {cs : List AV} : AV.cells (.tup cs) = [.tup cs] := rfl
@[simp] theorem un_tup {cs : List AV} : AV.un (.tup cs) = (.tup cs) := rfl
@[simp] theorem optB_tup {cs : List AV} : AV.optB (.tup cs) = true := rfl
@[simp] theorem okc_ptr {i o : Nat} : AV.okc (.ptr i o) = true := rfl
@[simp] theorem one_ptr {i o : Nat} : AV.one (.ptr i o) = true := rfl
@[simp] theorem cells_ptr {i o : Nat} : AV.cells (.ptr i o) = [.ptr i o] := rfl
@[simp] theorem un_ptr {i o : Nat} : AV.un (.ptr i o) = (.ptr i o) := rfl
@[simp] theorem optB_ptr {i o : Nat} : AV.optB (.ptr i o) = true := rfl
@[simp] theorem okc_nilp : AV.okc .nilp = true := rfl
@[simp] theorem one_nilp : AV.one .nilp = true := rfl
@[simp] theorem cells_nilp : AV.cells .nilp = [.nilp] := rfl
@[simp] theorem un_nilp : AV.un .nilp = .nilp := rfl
@[simp] theorem optB_nilp : AV.optB .nilp = true := rfl
@[simp] theorem okc_ref {cs : List AV} : AV.okc (.ref cs) = true := rfl
@[simp] theorem one_ref {cs : List AV} : AV.one (.ref cs) = true := rfl
@[simp] theorem cells_ref {cs : List AV} : AV.cells (.ref cs) = [.ref cs] := rfl
@[simp] theorem un_ref {cs : List AV} : AV.un (.ref cs) = (.ref cs) := rfl
@[simp] theorem optB_ref {cs : List AV} : AV.optB (.ref cs) = true := rfl
@[simp] theorem okc_sl {o : Own} {xs : List AV} : AV.okc (.sl o xs) = true := rfl
@[simp] theorem one_sl {o : Own} {xs : List AV} : AV.one (.sl o xs) = true := rfl
@[simp] theorem cells_sl {o : Own} {xs : List AV} : AV.cells (.sl o xs) = [.sl o xs] := rfl
@[simp] theorem un_sl {o : Own} {xs : List AV} : AV.un (.sl o xs) = (.sl o xs) := rfl
@[simp] theorem optB_sl {o : Own} {xs : List AV} : AV.optB (.sl o xs) = true := rfl
@[simp] theorem okc_map {i : Nat} : AV.okc (.map i) = true := rfl
@[simp] theorem one_map {i : Nat} : AV.one (.map i) = true := rfl
@[simp] theorem cells_map {i : Nat} : AV.cells (.map i) = [.map i] := rfl
@[simp] theorem un_map {i : Nat} : AV.un (.map i) = (.map i) := rfl
@[simp] theorem optB_map {i : Nat} : AV.optB (.map i) = true := rfl
@[simp] theorem okc_nilm : AV.okc .nilm = true := rfl
@[simp] theorem one_nilm : AV.one .nilm = true := rfl
@[simp] theorem cells_nilm : AV.cells .nilm = [.nilm] := rfl
@[simp] theorem un_nilm : AV.un .nilm = .nilm := rfl
@[simp] theorem optB_nilm : AV.optB .nilm = true := rfl
@[simp] theorem okc_fn {f : Fn} {a b : List AV} : AV.okc (.fn f a b) = true := rfl
@[simp] theorem one_fn {f : Fn} {a b : List AV} : AV.one (.fn f a b) = true := rfl
@[simp] theorem cells_fn {f : Fn} {a b : List AV} : AV.cells (.fn f a b) = [.fn f a b] := rfl
@[simp] theorem un_fn {f : Fn} {a b : List AV} : AV.un (.fn f a b) = (.fn f a b) := rfl
@[simp] theorem optB_fn {f : Fn} {a b : List AV} : AV.optB (.fn f a b) = true := rfl
@[simp] theorem okc_nilf : AV.okc .nilf = true := rfl
@[simp] theorem one_nilf : AV.one .nilf = true := rfl
@[simp] theorem cells_nilf : AV.cells .nilf = [.nilf] := rfl
@[simp] theorem un_nilf : AV.un .nilf = .nilf := rfl
@[simp] theorem optB_nilf : AV.optB .nilf = true := rfl
@[simp] theorem okc_nili : AV.okc .nili = true := rfl
@[simp] theorem one_nili : AV.one .nili = true := rfl
@[simp] theorem cells_nili : AV.cells .nili = [.nili] := rfl
@[simp] theorem un_nili : AV.un .nili = .nili := rfl
@[simp] theorem optB_nili : AV.optB .nili = true := rfl
@[simp] theorem okc_iface {t : TypeId} {x : AV} : AV.okc (.iface t x) = true := rfl
@[simp] theorem one_iface {t : TypeId} {x : AV} : AV.one (.iface t x) = true := rfl
@[simp] theorem cells_iface {t : TypeId} {x : AV} : AV.cells (.iface t x) = [.iface t x] := rfl
@[simp] theorem un_iface {t : TypeId} {x : AV} : AV.un (.iface t x) = (.iface t x) := rfl
@[simp] theorem optB_iface {t : TypeId} {x : AV} : AV.optB (.iface t x) = true := rfl
@[simp] theorem okc_mv {i n s o l : Nat} : AV.okc (.mv i n s o l) = true := rfl
@[simp] theorem one_mv {i n s o l : Nat} : AV.one (.mv i n s o l) = true := rfl
@[simp] theorem cells_mv {i n s o l : Nat} : AV.cells (.mv i n s o l) = [.mv i n s o l] := rfl
@[simp] theorem un_mv {i n s o l : Nat} : AV.un (.mv i n s o l) = (.mv i n s o l) := rfl
@[simp] theorem optB_mv {i n s o l : Nat} : AV.optB (.mv i n s o l) = true := rfl
@[simp] theorem okc_ub : AV.okc .ub = true := rfl
@[simp] theorem one_ub : AV.one .ub = true := rfl
@[simp] theorem cells_ub : AV.cells .ub = [.ub] := rfl
@[simp] theorem un_ub : AV.un .ub = .ub := rfl
@[simp] theorem optB_ub : AV.optB .ub = true := rfl
@[simp] theorem okc_eptr {i n o : Nat} : AV.okc (.eptr i n o) = true := rfl
@[simp] theorem one_eptr {i n o : Nat} : AV.one (.eptr i n o) = true := rfl
@[simp] theorem cells_eptr {i n o : Nat} : AV.cells (.eptr i n o) = [.eptr i n o] := rfl
@[simp] theorem un_eptr {i n o : Nat} : AV.un (.eptr i n o) = (.eptr i n o) := rfl
@[simp] theorem optB_eptr {i n o : Nat} : AV.optB (.eptr i n o) = true := rfl
@[simp] theorem okc_opt {b : Bool} {x : AV} : AV.okc (.opt b x) = false := rfl
@[simp] theorem one_opt {b : Bool} {x : AV} : AV.one (.opt b x) = false := rfl
@[simp] theorem cells_opt {b : Bool} {x : AV} : AV.cells (.opt b x) = [.opt b x] := rfl
@[simp] theorem un_opt {b : Bool} {x : AV} : AV.un (.opt b x) = x := rfl
@[simp] theorem optB_opt {b : Bool} {x : AV} : AV.optB (.opt b x) = b := rfl
end Go.Proofs.YtjplcdeaedflpaaGreatDoor.PL

namespace Go.Proofs.YtjplcdeaedflpaaGreatDoor.PL
open Go.RowKit

/-! ### what comes in, as plain values -/
def mkAV (agg : Bool) (ys : List AV) : AV := if agg = true then .agg ys else ys.headD .any

/-- Cells of a type, as they come in. -/
inductive Sh (P : Program) : TypeId → List AV → Prop
  | bool {t : TypeId} {b : Bool} (h : P.underlying t = some .bool) : Sh P t [.bool b]
  | int {t : TypeId} {k : IntKind} {n : Int} (h : P.underlying t = some (.int k)) (hw : (Lit.int k n).wf = true) : Sh P t [.int k n]
  | str {t : TypeId} {s : ByteArray} (h : P.underlying t = some .string) (hs : s.size ≤ reachBytes) : Sh P t [.str s]
  | sl {t e : TypeId} {b : Bool} {ys : List (List AV)} (h : P.underlying t = some (.slice e)) (hb : aggOf P e = some b) (hy : ∀ y, y ∈ ys → Sh P e y) (hl : ys.length * P.bytesOf e ≤ reachBytes) : Sh P t [.sl .no (ys.map (mkAV b))]
  | struct {t : TypeId} {fs : Array Field} {cs : List AV} (h : P.underlying t = some (.struct fs)) (hl : cs.length = P.cellsOf t) (hf : ∀ f, f ∈ fs.toList → Sh P f.type ((cs.drop f.offset).take (P.cellsOf f.type))) : Sh P t cs

def tile (P : Program) : Nat → List Field → Option Nat
  | off, [] => some off
  | off, f :: fs => if f.offset = off then tile P (off + P.cellsOf f.type) fs else none

def plainS (P : Program) (S : List TypeId) : Bool :=
  S.all fun t => match P.underlying t with
    | some .bool | some (.int _) | some .string => true
    | some (.slice e) => S.contains e && P.cellsOf e != 0
    | some (.struct fs) => fs.toList.all (fun f => S.contains f.type) && tile P 0 fs.toList == some (P.cellsOf t)
    | _ => false

theorem mapM_some {α β : Type} {f : α → Option β} : ∀ {l : List α} {r : List β}, l.mapM f = some r → r.length = l.length ∧ ∀ (i : Nat) (a : α), l[i]? = some a → ∃ b, f a = some b ∧ r[i]? = some b
  | [], r, h => by
    simp at h; subst h
    exact ⟨rfl, fun i a ha => by simp at ha⟩
  | x :: l, r, h => by
    rw [List.mapM_cons] at h
    cases hx : f x with
    | none => rw [hx] at h; cases h
    | some b =>
      rw [hx] at h
      simp only [Option.bind_eq_bind, Option.bind_some] at h
      cases hl : l.mapM f with
      | none => rw [hl] at h; cases h
      | some r' =>
        rw [hl] at h
        simp at h; subst h
        obtain ⟨h1, h2⟩ := mapM_some hl
        refine ⟨by simp [h1], fun i a ha => ?_⟩
        cases i with
        | zero => simp at ha; subst ha; exact ⟨b, hx, by simp⟩
        | succ i => simp at ha; obtain ⟨b', k1, k2⟩ := h2 i a ha; exact ⟨b', k1, by simpa using k2⟩

def memI (w : World) : Nat → Nat → Option Value := fun b o => w.cell? ⟨b, o, none⟩

theorem tile_ge {P : Program} : ∀ {fs : List Field} {off tot : Nat}, tile P off fs = some tot → off ≤ tot ∧ ∀ f, f ∈ fs → off ≤ f.offset ∧ f.offset + P.cellsOf f.type ≤ tot
  | [], off, tot, h => by simp [tile] at h; subst h; exact ⟨Nat.le_refl _, fun f hf => by cases hf⟩
  | f :: fs, off, tot, h => by
    rw [tile] at h
    split at h
    · rename_i ho
      obtain ⟨h1, h2⟩ := tile_ge h
      refine ⟨by omega, fun g hg => ?_⟩
      rcases List.mem_cons.1 hg with rfl | hg
      · omega
      · have := h2 g hg; omega
    · cases h

theorem join_pieces {P : Program} {Γ : Gh} {cs : List Value} : ∀ {fs : List Field} {off : Nat}, tile P off fs = some cs.length →
    (∀ f, f ∈ fs → ∃ xs, VRs Γ xs ((cs.drop f.offset).take (P.cellsOf f.type)) ∧ Sh P f.type xs ∧ AV.ones xs) →
    ∃ xs, VRs Γ xs (cs.drop off) ∧ AV.ones xs ∧ ∀ f, f ∈ fs → Sh P f.type ((xs.drop (f.offset - off)).take (P.cellsOf f.type))
  | [], off, h, _ => by
    simp [tile] at h; subst h
    refine ⟨[], by rw [List.drop_length]; exact .nil, ?_, ?_⟩
    · intro x hx; cases hx
    · intro f hf; cases hf
  | f :: fs, off, h, hp => by
    have hge := tile_ge h
    rw [tile] at h
    split at h
    · rename_i ho
      obtain ⟨xs, h1, h2, h3⟩ := join_pieces h fun g hg => hp g (List.mem_cons_of_mem _ hg)
      obtain ⟨ys, k1, k2, k3⟩ := hp f (List.mem_cons_self ..)
      have hle := (hge.2 f (List.mem_cons_self ..)).2
      have hyl : ys.length = P.cellsOf f.type := by rw [k1.length, List.length_take, List.length_drop]; omega
      refine ⟨ys ++ xs, ?_, ?_, ?_⟩
      · have : cs.drop off = (cs.drop f.offset).take (P.cellsOf f.type) ++ cs.drop (off + P.cellsOf f.type) := by
          rw [ho, ← List.drop_drop, List.take_append_drop]
        rw [this]
        exact k1.append h1
      · intro x hx
        rcases List.mem_append.1 hx with hx | hx
        · exact k3 x hx
        · exact h2 x hx
      · intro g hg
        rcases List.mem_cons.1 hg with rfl | hg
        · rw [ho, Nat.sub_self, List.drop_zero, List.take_append_of_le_length (by omega), List.take_of_length_le (by omega)]
          exact k2
        · have hgo := (tile_ge h).2 g hg
          have := h3 g hg
          rw [List.drop_append, List.drop_of_length_le (by omega), List.nil_append, hyl, show g.offset - off - P.cellsOf f.type = g.offset - (off + P.cellsOf f.type) by omega]
          exact this
    · cases h

theorem mkAV_cells {b : Bool} {ys : List AV} (hb : b = false → ys.length = 1) (h1 : AV.ones ys) : (mkAV b ys).cells = ys := by
  cases b with
  | true => rfl
  | false =>
    have := hb rfl
    match ys, this with
    | [y], _ =>
      have := h1 y (by simp)
      simp only [mkAV, Bool.false_eq_true, if_false, List.headD_cons]
      cases y <;> first | rfl | (simp [AV.one] at this)

theorem flat_eq {bb : Bool} : ∀ {ys : List (List AV)}, (∀ y, y ∈ ys → (mkAV bb y).cells = y) → (ys.map (mkAV bb)).flatMap AV.cells = ys.flatMap id
  | [], _ => rfl
  | y :: ys, h => by
    rw [List.map_cons, List.flatMap_cons, List.flatMap_cons, h y (List.mem_cons_self ..), flat_eq fun z hz => h z (List.mem_cons_of_mem _ hz)]
    rfl

theorem weightsAll_mem {H : Type} {P : Program} {e : TypeId} : ∀ {ds : List (DataW H)} {d : DataW H} {n : Nat}, d ∈ ds → n ∈ d.weights P e → n ∈ DataW.weightsAll P e ds
  | d' :: ds, d, n, hd, hn => by
    rw [DataW.weightsAll, List.mem_append]
    rcases List.mem_cons.1 hd with rfl | hd
    · exact .inl hn
    · exact .inr (weightsAll_mem hd hn)

theorem weightsEach_mem {H : Type} {P : Program} : ∀ {ts : List TypeId} {ds : List (DataW H)} {i : Nat} {t : TypeId} {d : DataW H} {n : Nat}, ts[i]? = some t → ds[i]? = some d → n ∈ d.weights P t → n ∈ DataW.weightsEach P ts ds
  | [], ds, i, t, d, n, ht, _, _ => by simp at ht
  | t' :: ts, [], i, t, d, n, _, hd, _ => by simp at hd
  | t' :: ts, d' :: ds, 0, t, d, n, ht, hd, hn => by
    simp at ht hd; subst ht hd
    rw [DataW.weightsEach, List.mem_append]; exact .inl hn
  | t' :: ts, d' :: ds, i + 1, t, d, n, ht, hd, hn => by
    simp at ht hd
    rw [DataW.weightsEach, List.mem_append]; exact .inr (weightsEach_mem ht hd hn)

theorem collect {P : Program} {Γ : Gh} {e : TypeId} {n : Nat} {b o : Nat} {w : World} (hw : ∀ b o v, w.cell? ⟨b, o, none⟩ = some v → Γ.I b o = some v) : ∀ (len : Nat),
    (∀ i, i < len → ∃ cs xs, (∀ j v, cs[j]? = some v → w.cell? ⟨b, o + (i * n + j), none⟩ = some v) ∧ cs.length = n ∧ VRs Γ xs cs ∧ Sh P e xs ∧ AV.ones xs) →
    ∃ ys : List (List AV), ys.length = len ∧ (∀ y, y ∈ ys → Sh P e y ∧ y.length = n ∧ AV.ones y) ∧ ∃ vs, VRs Γ (ys.flatMap id) vs ∧ vs.length = len * n ∧ Γ.At b o vs
  | 0, _ => by
    refine ⟨[], rfl, ?_, [], ?_, by simp, ?_⟩
    · intro y hy; cases hy
    · exact VRs.nil
    · intro i v h; simp at h
  | len + 1, h => by
    obtain ⟨ys, h1, h2, vs, h3, h4, h5⟩ := collect hw len fun i hi => h i (by omega)
    obtain ⟨cs, xs, k1, k2, k3, k4, k5⟩ := h len (by omega)
    refine ⟨ys ++ [xs], by simp [h1], ?_, vs ++ cs, ?_, ?_, ?_⟩
    · intro y hy
      rcases List.mem_append.1 hy with hy | hy
      · exact h2 y hy
      · simp at hy; subst hy; exact ⟨k4, by rw [k3.length, k2], k5⟩
    · rw [List.flatMap_append]
      simpa using h3.append k3
    · rw [List.length_append, h4, k2, Nat.add_mul]; omega
    · intro i v hi
      rcases Nat.lt_or_ge i vs.length with hlt | hge
      · rw [List.getElem?_append_left hlt] at hi; exact h5 i v hi
      · rw [List.getElem?_append_right hge] at hi
        have := hw _ _ _ (k1 _ _ hi)
        rwa [h4, show len * n + (i - len * n) = i by rw [h4] at hge; omega] at this

theorem of_trod {H : Type} {enc : TypeId × Value → H} {P : Program} {w : World} {spare : Nat → Bool} {held : Bool} {S : List TypeId} (hS : plainS P S = true) :
    ∀ (fuel : Nat) (t : TypeId) (cs : List Value) (d : DataW H) (ps : List MemPlace), t ∈ S → DataW.trod enc P w 0 spare held fuel t cs = some (d, ps) → (∀ x, x ∈ d.weights P t → x ≤ reachBytes) →
      ∃ xs, VRs (PI (memI w)) xs cs ∧ Sh P t xs ∧ AV.ones xs
  | 0, t, cs, d, ps, _, h, _ => by simp [DataW.trod] at h
  | fuel + 1, t, cs, d, ps, ht, h, hwt => by
    have hp := List.all_eq_true.1 hS t ht
    unfold DataW.trod at h
    cases hu : P.underlying t with
    | none => rw [hu] at hp; cases hp
    | some dsc =>
    rw [hu] at hp h
    cases dsc
    case bool =>
      split at h <;> first | (rename_i heq; cases heq; done) | (cases h; done) | skip
      rename_i b heq
      exact ⟨[.bool b], .cons (.bool b) .nil, .bool hu, fun x hx => by simp at hx; subst hx; rfl⟩
    case int k =>
      split at h <;> first | (rename_i heq; cases heq; done) | (cases h; done) | skip
      rename_i k2 k' n heq
      cases heq
      split at h
      · rename_i hc
        obtain ⟨rfl, hwf⟩ := hc
        exact ⟨[.int _ n], .cons (.int _ n) .nil, .int hu hwf, fun x hx => by simp at hx; subst hx; rfl⟩
      · cases h
    case string =>
      split at h <;> first | (rename_i heq; cases heq; done) | (cases h; done) | skip
      rename_i s heq
      split at h
      · simp at h
        obtain ⟨rfl, rfl⟩ := h
        have := hwt s.data.toList.length (by simp [DataW.weights])
        rw [Array.length_toList] at this
        exact ⟨[.str s], .cons (.str s) .nil, .str hu this, fun x hx => by simp at hx; subst hx; rfl⟩
      · cases h
    case slice e =>
      split at h <;> first | (rename_i heq; cases heq; done) | (cases h; done) | skip
      · rename_i e2 heq
        cases heq
        have hag : ∃ b, aggOf P e = some b := by
          simp only [Bool.and_eq_true, bne_iff_ne] at hp
          have he := List.all_eq_true.1 hS e (by simpa using hp.1)
          unfold aggOf
          cases hue : P.underlying e with
          | none => rw [hue] at he; cases he
          | some d => exact ⟨_, rfl⟩
        obtain ⟨b, hb⟩ := hag
        exact ⟨[.sl .no []], .cons (.sl0 (own := .no) trivial) .nil, .sl (ys := []) hu hb (fun y hy => by cases hy) (by simp), fun x hx => by simp at hx; subst hx; rfl⟩
      · rename_i e2 a len cap heq
        cases heq
        dsimp only at h
        split at h
        · rename_i hc
          simp only [Bool.and_eq_true, bne_iff_ne] at hp
          have heS : e ∈ S := by simpa using hp.1
          have hag : ∃ b, aggOf P e = some b := by
            have he := List.all_eq_true.1 hS e heS
            unfold aggOf
            cases hue : P.underlying e with
            | none => rw [hue] at he; cases he
            | some d => exact ⟨_, rfl⟩
          obtain ⟨bb, hb⟩ := hag
          rw [Option.bind_eq_some_iff] at h
          obtain ⟨elems, hel, h⟩ := h
          rw [Option.map_eq_some_iff] at h
          obtain ⟨rest, hrest, h⟩ := h
          simp at h
          obtain ⟨rfl, rfl⟩ := h
          obtain ⟨g1, g2⟩ := mapM_some hel
          simp only [List.length_range] at g1
          have hw1 : ((elems.map (·.1)).length + (rest.map (·.1)).length) * P.bytesOf e ≤ reachBytes := hwt _ (by simp [DataW.weights, hu])
          simp only [List.length_map] at hw1
          -- the address is a plain one where there is an element
          rcases Nat.eq_zero_or_pos len with h0 | hpos
          · subst h0
            exact ⟨[.sl .no []], .cons (.sl0 (own := .no) trivial) .nil, .sl (ys := []) hu hb (fun y hy => by cases hy) (by simp), fun x hx => by simp at hx; subst hx; rfl⟩
          · have elem : ∀ i, i < len → ∃ cs' d' p', w.cells? 0 (a.add (i * P.cellsOf e)) (P.cellsOf e) = some cs' ∧ DataW.trod enc P w 0 spare held fuel e cs' = some (d', p') ∧ elems[i]? = some (d', p') := by
              intro i hi
              obtain ⟨⟨d', p'⟩, k1, k2⟩ := g2 i i (by simp [hi])
              rw [Option.bind_eq_some_iff] at k1
              obtain ⟨cs', m1, m2⟩ := k1
              exact ⟨cs', d', p', m1, m2, k2⟩
            have hsp : a.spot = none := by
              obtain ⟨cs', d', p', m1, _⟩ := elem 0 hpos
              unfold World.cells? at m1
              rw [if_pos (Nat.zero_le _)] at m1
              obtain ⟨_, m3⟩ := mapM_some m1
              obtain ⟨v, m4, _⟩ := m3 0 0 (by rw [List.getElem?_range (Nat.pos_of_ne_zero hp.2)])
              have e0 : (a.add (0 * P.cellsOf e)).add 0 = a := by simp [Addr.add]
              rw [e0] at m4
              unfold World.cell? at m4
              split at m4
              · cases hs : a.spot with
                | none => rfl
                | some z => rw [hs] at m4; simp at m4
              · cases m4
            obtain ⟨ab, ao, asp⟩ := a
            simp only at hsp
            subst hsp
            obtain ⟨ys, k1, k2, vs, k3, k4, k5⟩ := collect (P := P) (Γ := PI (memI w)) (e := e) (n := P.cellsOf e) (b := ab) (o := ao) (w := w) (fun _ _ _ h => h) len (by
              intro i hi
              obtain ⟨cs', d', p', m1, m2, m3⟩ := elem i hi
              obtain ⟨xs, q1, q2, q3⟩ := of_trod hS fuel e cs' d' p' heS m2 (fun n hn => hwt n (by
                simp only [DataW.weights, hu, List.mem_cons, List.mem_append]
                refine .inr (.inl (weightsAll_mem (d := d') ?_ hn))
                exact List.mem_map.2 ⟨(d', p'), List.mem_of_getElem? m3, rfl⟩))
              unfold World.cells? at m1
              rw [if_pos (Nat.zero_le _)] at m1
              obtain ⟨n1, n2⟩ := mapM_some m1
              simp only [List.length_range] at n1
              refine ⟨cs', xs, ?_, n1, q1, q2, q3⟩
              intro j v hj
              have hjl : j < P.cellsOf e := by
                have := (List.getElem?_eq_some_iff.1 hj).1
                omega
              obtain ⟨v', n3, n4⟩ := n2 j j (by simp [hjl])
              rw [hj] at n4
              cases n4
              rw [addr_add, addr_add, Nat.add_assoc] at n3
              exact n3)
            have hagf : bb = false → ∀ y, y ∈ ys → y.length = 1 := by
              intro hbf y hy
              subst hbf
              rw [(k2 y hy).2.1]
              have hsh := (k2 y hy).1
              have hlen := (k2 y hy).2.1
              rw [← hlen]
              cases hsh with
              | bool _ => rfl
              | int _ _ => rfl
              | str _ _ => rfl
              | sl _ _ _ _ => rfl
              | struct hus _ _ => simp [aggOf, hus] at hb
            have hcells : (ys.map (mkAV bb)).flatMap AV.cells = ys.flatMap id :=
              flat_eq fun y hy => mkAV_cells (fun hbf => hagf hbf y hy) (k2 y hy).2.2
            refine ⟨[.sl .no (ys.map (mkAV bb))], .cons ?_ .nil, .sl hu hb (fun y hy => (k2 y hy).1) ?_, fun x hx => by simp at hx; subst hx; rfl⟩
            · refine .sl (sz := P.cellsOf e) (vs := vs) (by simp [k1]) ?_ ?_ ?_ k5 trivial hc.2.1
              · intro x hx
                obtain ⟨y, hy, rfl⟩ := List.mem_map.1 hx
                rw [mkAV_cells (fun hbf => hagf hbf y hy) (k2 y hy).2.2]
                exact (k2 y hy).2.1
              · rw [hcells]
                intro x hx
                obtain ⟨y, hy, hxy⟩ := List.mem_flatMap.1 hx
                exact (k2 y hy).2.2 x hxy
              · rw [hcells]; exact k3
            · rw [k1]
              refine Nat.le_trans (Nat.mul_le_mul_right _ ?_) hw1
              rw [g1]; omega
        · cases h
    case struct fs =>
      dsimp only at h
      split at h
      · rename_i hl
        rw [Option.map_eq_some_iff] at h
        obtain ⟨xs, hxs, h⟩ := h
        simp at h
        obtain ⟨rfl, rfl⟩ := h
        obtain ⟨g1, g2⟩ := mapM_some hxs
        simp only [Bool.and_eq_true, List.all_eq_true, beq_iff_eq] at hp
        have hpieces : ∀ f, f ∈ fs.toList → ∃ ys, VRs (PI (memI w)) ys ((cs.drop f.offset).take (P.cellsOf f.type)) ∧ Sh P f.type ys ∧ AV.ones ys := by
          intro f hf
          obtain ⟨i, hi⟩ := List.getElem?_of_mem hf
          obtain ⟨⟨df, pf⟩, k1, k2⟩ := g2 i f hi
          refine of_trod hS fuel f.type _ df pf (by simpa using hp.1 f hf) k1 ?_
          intro n hn
          refine hwt n ?_
          simp only [DataW.weights, hu]
          exact weightsEach_mem (i := i) (by simpa using congrArg (Option.map (·.type)) hi) (by simpa using congrArg (Option.map (·.1)) k2) hn
        obtain ⟨ys, k1, k2, k3⟩ := join_pieces (off := 0) (by rw [hp.2, hl]) hpieces
        rw [List.drop_zero] at k1
        refine ⟨ys, k1, .struct hu (by rw [k1.length, hl]) ?_, k2⟩
        intro f hf
        have := k3 f hf
        rwa [Nat.sub_zero] at this
      · cases h
    all_goals cases hp

inductive ShA (P : Program) : List TypeId → List AV → Prop
  | nil : ShA P [] []
  | cons {t : TypeId} {b : Bool} {ys : List AV} {ts : List TypeId} {xs : List AV} (hb : aggOf P t = some b) (h : Sh P t ys) (r : ShA P ts xs) : ShA P (t :: ts) (mkAV b ys :: xs)

theorem arg_in {P : Program} {W : World} {r : Reach} {base : Nat} {t : TypeId} {v : Value} {xs : List AV} (hok : Value.okWide P W r base t v) (hv : VRs (PI (memI W)) xs v.cells.toList) (hs : Sh P t xs) (h1 : AV.ones xs) :
    ∃ b, aggOf P t = some b ∧ VR (PI (memI W)) (mkAV b xs) v := by
  unfold Value.okWide at hok
  cases hs with
  | struct h hl hf =>
    refine ⟨true, by simp [aggOf, h], ?_⟩
    rw [h] at hok
    obtain ⟨cs, rfl, _⟩ := hok
    have := VR.agg h1 hv
    simpa [mkAV, Value.cells] using this
  | bool h =>
    refine ⟨false, by simp [aggOf, h], ?_⟩
    rw [h] at hok
    unfold Cell.okWide Cell.ok at hok
    rw [h] at hok
    cases v <;> first | (simp [Value.cells] at hv; cases hv with | cons r t => exact r) | exact hok.elim
  | int h hw =>
    refine ⟨false, by simp [aggOf, h], ?_⟩
    rw [h] at hok
    unfold Cell.okWide Cell.ok at hok
    rw [h] at hok
    cases v <;> first | (simp [Value.cells] at hv; cases hv with | cons r t => exact r) | exact hok.elim
  | str h hw =>
    refine ⟨false, by simp [aggOf, h], ?_⟩
    rw [h] at hok
    unfold Cell.okWide Cell.ok at hok
    rw [h] at hok
    cases v <;> first | (simp [Value.cells] at hv; cases hv with | cons r t => exact r) | exact hok.elim
  | sl h hb hy hl =>
    refine ⟨false, by simp [aggOf, h], ?_⟩
    rw [h] at hok
    unfold Cell.okWide Cell.ok at hok
    rw [h] at hok
    cases v <;> first | (simp [Value.cells] at hv; cases hv with | cons r t => exact r) | exact hok.elim

theorem args_in {H : Type} {enc : TypeId × Value → H} {P : Program} {W : World} {r : Reach} {base : Nat} {S : List TypeId} (hS : plainS P S = true) :
    ∀ (ts : List TypeId) (vs : List Value) (ds : List (DataW H)) (p : List MemPlace), DataW.TrodAll enc P W 0 (fun _ => true) true ts vs ds p → (∀ t, t ∈ ts → t ∈ S) →
      (∀ (j : Nat) t v, ts[j]? = some t → vs[j]? = some v → Value.okWide P W r base t v) → (∀ n, n ∈ DataW.weightsEach P ts ds → n ≤ reachBytes) → ∃ xs, VRs (PI (memI W)) xs vs ∧ ShA P ts xs
  | [], [], [], p, _, _, _, _ => ⟨[], .nil, .nil⟩
  | t :: ts, v :: vs, d :: ds, p, h, ht, hok, hw => by
    obtain ⟨p1, p2, ⟨fuel, h1⟩, h2, rfl⟩ := h
    obtain ⟨ys, k1, k2, k3⟩ := of_trod hS fuel t v.cells.toList d p1 (ht t (List.mem_cons_self ..)) h1 (fun n hn => hw n (by rw [DataW.weightsEach, List.mem_append]; exact .inl hn))
    obtain ⟨b, hb, hv⟩ := arg_in (hok 0 t v rfl rfl) k1 k2 k3
    obtain ⟨xs, g1, g2⟩ := args_in hS ts vs ds p2 h2 (fun t ht' => ht t (List.mem_cons_of_mem _ ht')) (fun j t v hj hv => hok (j + 1) t v (by simpa using hj) (by simpa using hv)) (fun n hn => hw n (by rw [DataW.weightsEach, List.mem_append]; exact .inr hn))
    exact ⟨_, .cons hv g1, .cons hb k2 g2⟩
  | [], _ :: _, _, _, h, _, _, _ => h.elim
  | [], [], _ :: _, _, h, _, _, _ => h.elim
  | _ :: _, [], _, _, h, _, _, _ => h.elim
  | _ :: _, _ :: _, [], _, h, _, _, _ => h.elim

theorem args_back {H : Type} {enc : TypeId × Value → H} {P : Program} {W W' : World} (hl : laidOutB P = true) (hb : Below W.heap.size W W') :
    ∀ (ts : List TypeId) (vs : List Value) (ds : List (DataW H)) (p : List MemPlace), DataW.TrodAll enc P W 0 (fun _ => true) true ts vs ds p → (ts.all fun t => P.readableRec t && decide (t < P.types.size)) = true → (∀ x, x ∈ p → x.block < W.heap.size) →
      DataW.TrodAll enc P W' 0 (fun b => decide (b < W.heap.size)) true ts vs ds p
  | [], [], [], p, h, _, _ => h
  | t :: ts, v :: vs, d :: ds, p, h, ht, hlt => by
    obtain ⟨p1, p2, h1, h2, rfl⟩ := h
    simp only [List.all_cons, Bool.and_eq_true, decide_eq_true_eq] at ht
    exact ⟨p1, p2, Below.trod hl ht.1.1 ht.1.2 h1 hb (fun x hx => hlt x (List.mem_append_left _ hx)), args_back hl hb ts vs ds p2 h2 ht.2 (fun x hx => hlt x (List.mem_append_right _ hx)), rfl⟩
  | [], _ :: _, _, _, h, _, _ => h.elim
  | [], [], _ :: _, _, h, _, _ => h.elim
  | _ :: _, [], _, _, h, _, _ => h.elim
  | _ :: _, _ :: _, [], _, h, _, _ => h.elim

/-- A law of plain values, called with what came in. -/
theorem law_calls {H : Type} {enc : TypeId × Value → H} {P : Program} {W : World} {r : Reach} {base : Nat} {S : List TypeId} (hS : plainS P S = true) {f : FuncId} {ts : List TypeId} {vs : List Value} {ds : List (DataW H)} {p : List MemPlace}
    (hA : DataW.TrodAll enc P W 0 (fun _ => true) true ts vs ds p) (ht : (ts.all fun t => S.contains t) = true) (hok : ∀ (j : Nat) t v, ts[j]? = some t → vs[j]? = some v → Value.okWide P W r base t v)
    (hw : (DataW.weightsEach P ts ds).all (· ≤ reachBytes) = true) (hcl : Callable P f) (hT : ∀ xs, ShA P ts xs → T P f xs (.bool true)) (hg : Glob W) :
    Calls P f vs.toArray W fun e W' => e = .returned (.bool true) ∧ Below W.heap.size W W' := by
  obtain ⟨xs, h1, h2⟩ := args_in hS ts vs ds p hA (fun t h => by simpa using List.all_eq_true.1 ht t h) hok (fun n hn => by simpa using List.all_eq_true.1 hw n hn)
  refine ((hT xs h2) (memI W) W vs hg (fun _ _ _ h => h) h1).calls hcl |>.mono ?_
  rintro e W' ⟨I', v, rfl, _, _, hv, hb⟩
  cases hv
  exact ⟨rfl, hb⟩

end Go.Proofs.YtjplcdeaedflpaaGreatDoor.PL
