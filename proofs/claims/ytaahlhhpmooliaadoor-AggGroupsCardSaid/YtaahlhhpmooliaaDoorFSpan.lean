/- What the functions of spans tell. -/
import Derived.Test.YtaahlhhpmooliaaDoorFMuch
import Derived.Test.YtaahlhhpmooliaaDoorFOrd
namespace Go.Proofs.YtaahlhhpmooliaaDoor.PL
open Go.Proofs
set_option linter.unusedVariables false
set_option linter.unusedSimpArgs false
structure Span where
  lo : Val
  hi : Val
  n : Int
  m : Int
abbrev Span.cs (s : Span) : List AV := [.int .i64 s.lo.k, .int .i64 s.lo.i, .str s.lo.s, .int .i64 s.hi.k, .int .i64 s.hi.i, .str s.hi.s, .int .i64 s.n, .int .i64 s.m]
abbrev Span.av (s : Span) : AV := .agg s.cs
def zv : Val := ⟨0, 0, ByteArray.empty⟩
def Span.zero : Span := ⟨zv, zv, 0, 0⟩
def oneS (v : Val) : Span := if v.k = 0 then ⟨zv, zv, 0, 1⟩ else ⟨v, v, 1, 0⟩
def uniS (a b : Span) : Span :=
  ⟨if a.n = 0 ∨ 0 < b.n ∧ order b.lo a.lo < 0 then b.lo else a.lo, if a.n = 0 ∨ 0 < b.n ∧ 0 < order b.hi a.hi then b.hi else a.hi, IntKind.i64.wrap (a.n + b.n), IntKind.i64.wrap (a.m + b.m)⟩
def addS (s : Span) (l : List Val) : Span := l.foldl (fun s v => uniS s (oneS v)) s
def hasS (s : Span) (v : Val) : Bool := if v.k = 0 then decide (0 < s.m) else decide (0 < s.n) && decide (0 ≤ order v s.lo) && decide (order v s.hi ≤ 0)


theorem addS_next {s : Span} {l : List Val} {i : Nat} (h : i < l.length) : addS s (l.take (i + 1)) = uniS (addS s (l.take i)) (oneS l[i]) := by
  unfold addS; rw [take_next h, List.foldl_append]; rfl





structure Ends where
  lo : Val
  hi : Val
  some : Bool
  nulls : Bool
def endS (t : Ends) (v : Val) : Ends :=
  if v.k = 0 then { t with nulls := true } else ⟨if t.some = false ∨ order v t.lo < 0 then v else t.lo, if t.some = false ∨ 0 < order v t.hi then v else t.hi, true, t.nulls⟩
def endsL (l : List Val) : Ends := l.foldl endS ⟨zv, zv, false, false⟩
theorem endsL_next {l : List Val} {i : Nat} (h : i < l.length) : endsL (l.take (i + 1)) = endS (endsL (l.take i)) l[i] := by
  unfold endsL; rw [take_next h, List.foldl_append]; rfl

def rhasL (l : List Val) (v : Val) : Bool := if v.k = 0 then (endsL l).nulls else (endsL l).some && decide (order (endsL l).lo v ≤ 0) && decide (order v (endsL l).hi ≤ 0)
def Low (L : List Val) (x : Val) : Prop := ((∀ v, v ∈ L → v.k = 0) ∧ x = zv) ∨ (x ∈ L ∧ x.k ≠ 0 ∧ ∀ v, v ∈ L → v.k ≠ 0 → order x v ≤ 0)
def High (L : List Val) (x : Val) : Prop := ((∀ v, v ∈ L → v.k = 0) ∧ x = zv) ∨ (x ∈ L ∧ x.k ≠ 0 ∧ ∀ v, v ∈ L → v.k ≠ 0 → order v x ≤ 0)
theorem Low.unique {L M : List Val} {x y : Val} (hm : ∀ v, v ∈ L ↔ v ∈ M) (h1 : Low L x) (h2 : Low M y) : x = y := by
  rcases h1 with ⟨a, rfl⟩ | ⟨a1, a2, a3⟩ <;> rcases h2 with ⟨b, rfl⟩ | ⟨b1, b2, b3⟩
  · rfl
  · exact absurd (a y ((hm y).2 b1)) b2
  · exact absurd (b x ((hm x).1 a1)) a2
  · exact order_anti (a3 y ((hm y).2 b1) b2) (b3 x ((hm x).1 a1) a2)
theorem High.unique {L M : List Val} {x y : Val} (hm : ∀ v, v ∈ L ↔ v ∈ M) (h1 : High L x) (h2 : High M y) : x = y := by
  rcases h1 with ⟨a, rfl⟩ | ⟨a1, a2, a3⟩ <;> rcases h2 with ⟨b, rfl⟩ | ⟨b1, b2, b3⟩
  · rfl
  · exact absurd (a y ((hm y).2 b1)) b2
  · exact absurd (b x ((hm x).1 a1)) a2
  · exact order_anti (b3 x ((hm x).1 a1) a2) (a3 y ((hm y).2 b1) b2)
theorem Low.join {A B : List Val} {x y : Val} (c : Bool) (ha : Low A x) (hb : Low B y) (hc : c = true ↔ (∀ v, v ∈ A → v.k = 0) ∨ (¬ ∀ v, v ∈ B → v.k = 0) ∧ order y x < 0) : Low (A ++ B) (if c = true then y else x) := by
  have hs := order_swap x y
  rcases ha with ⟨a, rfl⟩ | ⟨a1, a2, a3⟩
  · have : c = true := hc.2 (.inl a)
    rw [if_pos this]
    rcases hb with ⟨b, rfl⟩ | ⟨b1, b2, b3⟩
    · exact .inl ⟨fun v hv => (List.mem_append.1 hv).elim (a v) (b v), rfl⟩
    · exact .inr ⟨List.mem_append_right _ b1, b2, fun v hv hk => (List.mem_append.1 hv).elim (fun h => absurd (a v h) hk) (fun h => b3 v h hk)⟩
  · have na : ¬ ∀ v, v ∈ A → v.k = 0 := fun h => a2 (h x a1)
    rcases hb with ⟨b, rfl⟩ | ⟨b1, b2, b3⟩
    · have : ¬ c = true := fun h => (hc.1 h).elim na (fun h => h.1 b)
      rw [if_neg this]
      exact .inr ⟨List.mem_append_left _ a1, a2, fun v hv hk => (List.mem_append.1 hv).elim (fun h => a3 v h hk) (fun h => absurd (b v h) hk)⟩
    · have nb : ¬ ∀ v, v ∈ B → v.k = 0 := fun h => b2 (h y b1)
      by_cases h : c = true
      · rw [if_pos h]
        have hlt : order y x < 0 := (hc.1 h).elim (fun h => absurd h na) (·.2)
        exact .inr ⟨List.mem_append_right _ b1, b2, fun v hv hk => (List.mem_append.1 hv).elim (fun h => order_trans (by omega) (a3 v h hk)) (fun h => b3 v h hk)⟩
      · rw [if_neg h]
        have hge : order x y ≤ 0 := by
          have : ¬ order y x < 0 := fun hl => h (hc.2 (.inr ⟨nb, hl⟩))
          omega
        exact .inr ⟨List.mem_append_left _ a1, a2, fun v hv hk => (List.mem_append.1 hv).elim (fun h => a3 v h hk) (fun h => order_trans hge (b3 v h hk))⟩
theorem High.join {A B : List Val} {x y : Val} (c : Bool) (ha : High A x) (hb : High B y) (hc : c = true ↔ (∀ v, v ∈ A → v.k = 0) ∨ (¬ ∀ v, v ∈ B → v.k = 0) ∧ 0 < order y x) : High (A ++ B) (if c = true then y else x) := by
  have hs := order_swap x y
  rcases ha with ⟨a, rfl⟩ | ⟨a1, a2, a3⟩
  · have : c = true := hc.2 (.inl a)
    rw [if_pos this]
    rcases hb with ⟨b, rfl⟩ | ⟨b1, b2, b3⟩
    · exact .inl ⟨fun v hv => (List.mem_append.1 hv).elim (a v) (b v), rfl⟩
    · exact .inr ⟨List.mem_append_right _ b1, b2, fun v hv hk => (List.mem_append.1 hv).elim (fun h => absurd (a v h) hk) (fun h => b3 v h hk)⟩
  · have na : ¬ ∀ v, v ∈ A → v.k = 0 := fun h => a2 (h x a1)
    rcases hb with ⟨b, rfl⟩ | ⟨b1, b2, b3⟩
    · have : ¬ c = true := fun h => (hc.1 h).elim na (fun h => h.1 b)
      rw [if_neg this]
      exact .inr ⟨List.mem_append_left _ a1, a2, fun v hv hk => (List.mem_append.1 hv).elim (fun h => a3 v h hk) (fun h => absurd (b v h) hk)⟩
    · have nb : ¬ ∀ v, v ∈ B → v.k = 0 := fun h => b2 (h y b1)
      by_cases h : c = true
      · rw [if_pos h]
        have hlt : 0 < order y x := (hc.1 h).elim (fun h => absurd h na) (·.2)
        exact .inr ⟨List.mem_append_right _ b1, b2, fun v hv hk => (List.mem_append.1 hv).elim (fun h => order_trans (a3 v h hk) (by omega)) (fun h => b3 v h hk)⟩
      · rw [if_neg h]
        have hge : order y x ≤ 0 := by
          have : ¬ 0 < order y x := fun hl => h (hc.2 (.inr ⟨nb, hl⟩))
          omega
        exact .inr ⟨List.mem_append_left _ a1, a2, fun v hv hk => (List.mem_append.1 hv).elim (fun h => a3 v h hk) (fun h => order_trans (b3 v h hk) hge)⟩
def cntN (L : List Val) : Nat := (L.filter fun v => !decide (v.k = 0)).length
def cntZ (L : List Val) : Nat := (L.filter fun v => decide (v.k = 0)).length
theorem cnt_all (L : List Val) : cntN L + cntZ L = L.length := by
  induction L with
  | nil => rfl
  | cons v L ih => unfold cntN cntZ at *; by_cases h : v.k = 0 <;> simp [h] at * <;> omega
theorem cntN_zero {L : List Val} : cntN L = 0 ↔ ∀ v, v ∈ L → v.k = 0 := by
  unfold cntN; rw [List.length_eq_zero_iff, List.filter_eq_nil_iff]; simp
theorem cntZ_pos {L : List Val} : 0 < cntZ L ↔ ∃ v, v ∈ L ∧ v.k = 0 := by
  unfold cntZ; rw [List.length_pos_iff_exists_mem]; simp
structure Tells (s : Span) (L : List Val) : Prop where
  lo : Low L s.lo
  hi : High L s.hi
  n : s.n = cntN L
  m : s.m = cntZ L
theorem Tells.zero : Tells Span.zero [] := ⟨.inl ⟨fun v h => (by cases h), rfl⟩, .inl ⟨fun v h => (by cases h), rfl⟩, rfl, rfl⟩
theorem Tells.one (v : Val) : Tells (oneS v) [v] := by
  unfold oneS
  split
  · rename_i h
    exact ⟨.inl ⟨fun w hw => by simp at hw; subst hw; exact h, rfl⟩, .inl ⟨fun w hw => by simp at hw; subst hw; exact h, rfl⟩, by simp [cntN, h], by simp [cntZ, h]⟩
  · rename_i h
    refine ⟨.inr ⟨by simp, h, fun w hw _ => ?_⟩, .inr ⟨by simp, h, fun w hw _ => ?_⟩, by simp [cntN, h], by simp [cntZ, h]⟩
    · simp at hw; subst hw; rw [order_self]; exact Int.le_refl _
    · simp at hw; subst hw; rw [order_self]; exact Int.le_refl _
theorem Tells.join {a b : Span} {A B : List Val} (ha : Tells a A) (hb : Tells b B) (hl : (A ++ B).length < 4611686018427387904) : Tells (uniS a b) (A ++ B) := by
  have c1 := cnt_all A
  have c2 := cnt_all B
  rw [List.length_append] at hl
  have zA := cntN_zero (L := A)
  have zB := cntN_zero (L := B)
  have n1 := ha.n
  have n2 := hb.n
  have m1 := ha.m
  have m2 := hb.m
  refine ⟨?_, ?_, ?_, ?_⟩
  · have := Low.join (decide (a.n = 0 ∨ 0 < b.n ∧ order b.lo a.lo < 0)) ha.lo hb.lo (by rw [← zA, ← zB]; simp; omega)
    simpa [uniS] using this
  · have := High.join (decide (a.n = 0 ∨ 0 < b.n ∧ 0 < order b.hi a.hi)) ha.hi hb.hi (by rw [← zA, ← zB]; simp; omega)
    simpa [uniS] using this
  · show IntKind.i64.wrap (a.n + b.n) = _
    rw [wrap_i64 (by omega) (by omega), n1, n2]
    simp [cntN]
  · show IntKind.i64.wrap (a.m + b.m) = _
    rw [wrap_i64 (by omega) (by omega), m1, m2]
    simp [cntZ]
theorem Tells.add : ∀ {l A : List Val} {s : Span}, Tells s A → (A ++ l).length < 4611686018427387904 → Tells (addS s l) (A ++ l)
  | [], A, s, h, _ => by simpa [addS] using h
  | v :: l, A, s, h, hl => by
    have h1 := h.join (Tells.one v) (by simp at hl ⊢; omega)
    have h2 := Tells.add (l := l) h1 (by simpa using hl)
    simpa [addS] using h2
structure TellsE (t : Ends) (L : List Val) : Prop where
  lo : Low L t.lo
  hi : High L t.hi
  some : t.some = true ↔ ¬ ∀ v, v ∈ L → v.k = 0
  nulls : t.nulls = true ↔ ∃ v, v ∈ L ∧ v.k = 0
theorem TellsE.step {t : Ends} {L : List Val} (h : TellsE t L) (v : Val) : TellsE (endS t v) (L ++ [v]) := by
  obtain ⟨h1, h2, h3, h4⟩ := h
  have t1 := Tells.one v
  unfold oneS at t1
  unfold endS
  split
  · rename_i hk
    rw [if_pos hk] at t1
    have al : ∀ w, w ∈ [v] → w.k = 0 := by simp [hk]
    refine ⟨?_, ?_, ?_, ?_⟩
    · rcases h1 with ⟨a, b⟩ | ⟨a, b, c⟩
      · exact .inl ⟨fun w hw => (List.mem_append.1 hw).elim (a w) (al w), b⟩
      · exact .inr ⟨List.mem_append_left _ a, b, fun w hw hk => (List.mem_append.1 hw).elim (fun h => c w h hk) (fun h => absurd (al w h) hk)⟩
    · rcases h2 with ⟨a, b⟩ | ⟨a, b, c⟩
      · exact .inl ⟨fun w hw => (List.mem_append.1 hw).elim (a w) (al w), b⟩
      · exact .inr ⟨List.mem_append_left _ a, b, fun w hw hk => (List.mem_append.1 hw).elim (fun h => c w h hk) (fun h => absurd (al w h) hk)⟩
    · simp only [h3]
      constructor
      · intro h h'; exact h fun w hw => h' w (List.mem_append_left _ hw)
      · intro h h'; exact h fun w hw => (List.mem_append.1 hw).elim (h' w) (al w)
    · simp [hk]
  · rename_i hk
    rw [if_neg hk] at t1
    have nb : ¬ ∀ w, w ∈ [v] → w.k = 0 := by simp [hk]
    have hsome : t.some = false ↔ ∀ w, w ∈ L → w.k = 0 := by rw [← Bool.not_eq_true, h3]; exact Decidable.not_not
    refine ⟨?_, ?_, ?_, ?_⟩
    · have := Low.join (decide (t.some = false ∨ order v t.lo < 0)) h1 t1.lo (by simp only [decide_eq_true_eq, hsome]; exact or_congr_right (and_iff_right nb).symm)
      simpa using this
    · have := High.join (decide (t.some = false ∨ 0 < order v t.hi)) h2 t1.hi (by simp only [decide_eq_true_eq, hsome]; exact or_congr_right (and_iff_right nb).symm)
      simpa using this
    · simp [hk]
    · simp only [h4]
      constructor
      · rintro ⟨w, a, b⟩; exact ⟨w, List.mem_append_left _ a, b⟩
      · rintro ⟨w, a, b⟩
        rcases List.mem_append.1 a with a | a
        · exact ⟨w, a, b⟩
        · simp at a; subst a; exact absurd b hk
theorem TellsE.all (l : List Val) : TellsE (endsL l) l := by
  have key : ∀ (l A : List Val) (t : Ends), TellsE t A → TellsE (l.foldl endS t) (A ++ l) := by
    intro l
    induction l with
    | nil => intro A t h; simpa using h
    | cons v l ih => intro A t h; have := ih (A ++ [v]) _ (h.step v); simpa using this
  exact key l [] ⟨zv, zv, false, false⟩ ⟨.inl ⟨fun v h => (by cases h), rfl⟩, .inl ⟨fun v h => (by cases h), rfl⟩, by simp, by simp⟩
theorem tells_has {s : Span} {L M : List Val} (hm : ∀ v, v ∈ L ↔ v ∈ M) (h : Tells s L) (v : Val) : hasS s v = rhasL M v := by
  have e := TellsE.all M
  have h1 : s.lo = (endsL M).lo := Low.unique hm h.lo e.lo
  have h2 : s.hi = (endsL M).hi := High.unique hm h.hi e.hi
  have h3 : decide (0 < s.n) = (endsL M).some := by
    rw [Bool.eq_iff_iff, e.some, decide_eq_true_iff, h.n]
    have := cntN_zero (L := L)
    have hmm : (∀ v, v ∈ L → v.k = 0) ↔ ∀ v, v ∈ M → v.k = 0 := ⟨fun h v hv => h v ((hm v).2 hv), fun h v hv => h v ((hm v).1 hv)⟩
    rw [← hmm, ← this]; omega
  have h4 : decide (0 < s.m) = (endsL M).nulls := by
    rw [Bool.eq_iff_iff, e.nulls, decide_eq_true_iff, h.m]
    have := cntZ_pos (L := L)
    have hmm : (∃ v, v ∈ L ∧ v.k = 0) ↔ ∃ v, v ∈ M ∧ v.k = 0 := ⟨fun ⟨v, a, b⟩ => ⟨v, (hm v).1 a, b⟩, fun ⟨v, a, b⟩ => ⟨v, (hm v).2 a, b⟩⟩
    rw [← hmm, ← this]; omega
  unfold hasS rhasL
  rw [h3, h4, h1, h2, order_swap (endsL M).lo v]
  congr 3
  rw [decide_eq_decide]; omega
theorem tells_mem {s : Span} {L : List Val} (h : Tells s L) {v : Val} (hv : v ∈ L) : hasS s v = true := by
  unfold hasS
  split
  · rename_i hk
    rw [decide_eq_true_iff, h.m]
    have := cntZ_pos.2 ⟨v, hv, hk⟩
    omega
  · rename_i hk
    have hn : cntN L ≠ 0 := fun e => hk (cntN_zero.1 e v hv)
    have h1 : order s.lo v ≤ 0 := by
      rcases h.lo with ⟨a, _⟩ | ⟨_, _, a⟩
      · exact absurd (a v hv) hk
      · exact a v hv hk
    have h2 : order v s.hi ≤ 0 := by
      rcases h.hi with ⟨a, _⟩ | ⟨_, _, a⟩
      · exact absurd (a v hv) hk
      · exact a v hv hk
    have h3 := order_swap s.lo v
    have h4 := h.n
    simp
    omega



end Go.Proofs.YtaahlhhpmooliaaDoor.PL
