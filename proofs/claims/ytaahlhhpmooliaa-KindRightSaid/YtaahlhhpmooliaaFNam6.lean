/- What a resolved query is: the plain law. -/
import Derived.Test.YtaahlhhpmooliaaFNam5
namespace Go.Proofs.Ytaahlhhpmooliaa.PL
open Go.Proofs
set_option linter.unusedVariables false
set_option linter.unusedSimpArgs false
variable {ts : List Tab} {fs : List Frm}
def Frm.bare (f : Frm) : Frm := { f with on := zE }
theorem seenL_bare (fs : List Frm) : ∀ i, seenL (fs.map Frm.bare) i = seenL fs i
  | 0 => rfl
  | i + 1 => by
    simp only [seenL, seenL_bare fs i, List.getElem?_map]
    cases fs[i]? <;> rfl
theorem seenF_bare (fs : List Frm) (n : Int) : seenF (fs.map Frm.bare) n = seenF fs n := by simp [seenF, seenL_bare]
theorem fAt_bare (fs : List Frm) (k : Int) : fAt (fs.map Frm.bare) k = (fAt fs k).map Frm.bare := by unfold fAt; split <;> simp
theorem hitsF_bare {tab name : ByteArray} : ∀ ks, hitsF ts (fs.map Frm.bare) tab name ks = hitsF ts fs tab name ks
  | [] => rfl
  | k :: ks => by
    have h1 : skipF (fs.map Frm.bare) tab k = skipF fs tab k := by unfold skipF; rw [fAt_bare]; cases fAt fs k <;> rfl
    have h2 : hitK ts (fs.map Frm.bare) name k = hitK ts fs name k := by unfold hitK; rw [fAt_bare]; cases fAt fs k <;> rfl
    simp only [hitsF, h1, h2, hitsF_bare ks]
theorem colF_bare {seen : List Int} {e : Ex'} : colF ts (fs.map Frm.bare) seen e = colF ts fs seen e := by
  unfold colF
  rw [hitsF_bare]
  split
  · rw [fAt_bare]; cases fAt fs _ <;> rfl
  · rfl
theorem exprFL_congr {fs fs' : List Frm} {seen : List Int} : ∀ {l : List Ex'}, (∀ x, x ∈ l → exprF ts fs seen x = exprF ts fs' seen x) → exprFL ts fs seen l = exprFL ts fs' seen l
  | [], _ => by simp only [exprFL]
  | e :: l, h => by
    have h1 : exprFL ts fs seen l = exprFL ts fs' seen l := exprFL_congr fun x hx => h x (List.mem_cons_of_mem _ hx)
    simp only [exprFL, h e List.mem_cons_self, h1]
theorem exprF_bare {seen : List Int} (e : Ex') : exprF ts (fs.map Frm.bare) seen e = exprF ts fs seen e := by
  induction e using Ex'.ind with
  | h a ih => rw [exprF_eq, exprF_eq, colF_bare, exprFL_congr ih]
theorem rightF_bare (i : Nat) : rightF ts (fs.map Frm.bare) i = rightF ts fs i := by
  have e0 : (fs.map Frm.bare).getD i ⟨0, ByteArray.empty, ByteArray.empty, zE⟩ = (fs.getD i ⟨0, ByteArray.empty, ByteArray.empty, zE⟩).bare := by
    rw [List.getD_eq_getElem?_getD, List.getD_eq_getElem?_getD, List.getElem?_map]
    cases fs[i]? <;> rfl
  have e1 : twiceF (fs.map Frm.bare) i = twiceF fs i := by
    unfold twiceF
    rw [e0, ← List.map_take, List.any_map]
    rfl
  unfold rightF
  rw [e0, e1]
  rfl
theorem exprFL_get {seen : List Int} : ∀ {l m : List Ex'}, exprFL ts fs seen l = some m → ∀ i (h : i < l.length) (h' : i < m.length), exprF ts fs seen l[i] = some m[i]
  | e :: l, m, h, i, h1, h2 => by
    simp only [exprFL] at h
    cases he : exprF ts fs seen e with
    | none => rw [he] at h; cases h
    | some e' =>
      rw [he] at h
      dsimp only at h
      cases hl : exprFL ts fs seen l with
      | none => rw [hl] at h; cases h
      | some q =>
        rw [hl] at h
        simp at h
        subst h
        cases i with
        | zero => exact he
        | succ i => simpa using exprFL_get hl i (by simpa using h1) (by simpa using h2)
theorem exprFL_of {seen : List Int} : ∀ {l m : List Ex'}, m.length = l.length → (∀ i (h : i < l.length) (h' : i < m.length), exprF ts fs seen l[i] = some m[i]) → exprFL ts fs seen l = some m
  | [], [], _, _ => by simp only [exprFL]
  | [], _ :: _, h, _ => by simp at h
  | _ :: _, [], h, _ => by simp at h
  | e :: l, y :: m, h, hg => by
    have h0 : exprF ts fs seen e = some y := hg 0 (by simp) (by simp)
    have h1 : exprFL ts fs seen l = some m := exprFL_of (by simpa using h) fun i a b => hg (i + 1) (by simpa using a) (by simpa using b)
    simp only [exprFL, h0, h1, Option.map_some]
/-- what holds of a resolved expression, by what it was -/
theorem exprF_rec {seen : List Int} {Q : Ex' → Ex' → Prop} (hc : ∀ e e' : Ex', e.op = 15 → colF ts fs seen e = some e' → Q e e') (hn : ∀ (e : Ex') (m : List Ex'), ¬ e.op = 15 → m.length = e.l.length → (∀ i (h : i < e.l.length) (h' : i < m.length), Q e.l[i] m[i]) → Q e (.mk e.op e.tab e.name e.t e.c e.v m)) (e : Ex') : ∀ e', exprF ts fs seen e = some e' → Q e e' := by
  induction e using Ex'.ind with
  | h a ih =>
    intro e' h
    rw [exprF_eq] at h
    split at h
    · rename_i h1; exact hc _ _ h1 h
    · rename_i h1
      cases hl : exprFL ts fs seen a.l with
      | none => rw [hl] at h; cases h
      | some m =>
        rw [hl] at h
        simp at h
        subst h
        exact hn a m h1 (exprFL_len hl) fun i h2 h3 => ih _ (List.getElem_mem h2) _ (exprFL_get hl i h2 h3)
theorem colF_some {seen : List Int} {e e' : Ex'} (h : colF ts fs seen e = some e') : ∃ p f, hitsF ts fs e.tab e.name seen = [p] ∧ fAt fs p.1 = some f ∧ e' = .mk 15 (aliasF f) e.name p.1 p.2 zV [] := by
  unfold colF at h
  split at h
  · rename_i p hp
    cases hf : fAt fs p.1 with
    | none => rw [hf] at h; cases h
    | some f => rw [hf] at h; simp at h; exact ⟨p, f, hp, hf, h.symm⟩
  · cases h
theorem hits_mem {tab name : ByteArray} : ∀ (ks : List Int) p, p ∈ hitsF ts fs tab name ks → p.1 ∈ ks ∧ p ∈ hitK ts fs name p.1 ∧ (tab = ByteArray.empty ∨ ∀ f, fAt fs p.1 = some f → aliasF f = tab)
  | [], p, hp => by cases hp
  | k :: ks, p, hp => by
    unfold hitsF at hp
    split at hp
    · obtain ⟨h1, h2, h3⟩ := hits_mem ks p hp
      exact ⟨by simp [h1], h2, h3⟩
    · rename_i hs
      rw [List.mem_append] at hp
      rcases hp with hp | hp
      · have hk : p.1 = k := by
          unfold hitK at hp
          split at hp
          · cases hp
          · split at hp
            · cases hp
            · simp at hp; rw [hp]
        refine ⟨by simp [hk], by rw [hk]; exact hp, ?_⟩
        by_cases ht : tab = ByteArray.empty
        · exact .inl ht
        · refine .inr fun f hf => ?_
          rw [hk] at hf
          unfold skipF at hs
          rw [hf] at hs
          simpa [ht] using hs
      · split at hp
        · obtain ⟨h1, h2, h3⟩ := hits_mem ks p hp
          exact ⟨by simp [h1], h2, h3⟩
        · cases hp
def Dist (fs : List Frm) : Prop := ∀ i j (hi : i < fs.length) (hj : j < fs.length), aliasF fs[i] = aliasF fs[j] → i = j
theorem hits_again (hd : Dist fs) {name : ByteArray} {p : Int × Int} {f : Frm} (hf : fAt fs p.1 = some f) (hne : ¬ aliasF f = ByteArray.empty) (hp : p ∈ hitK ts fs name p.1) : ∀ ks : List Int, p.1 ∈ ks → hitsF ts fs (aliasF f) name ks = [p]
  | [], h => by cases h
  | k :: ks, h => by
    unfold hitsF
    rw [if_neg hne]
    by_cases hk : k = p.1
    · subst hk
      have hs : skipF fs (aliasF f) p.1 = false := by unfold skipF; rw [hf]; simp
      have h1 := hitK_le ts fs name p.1
      rw [hs, if_neg (by simp), List.append_nil]
      match hitK ts fs name p.1, hp, h1 with
      | [x], hp, _ => rw [List.mem_singleton.1 hp]
    · have hs : skipF fs (aliasF f) k = true := by
        unfold skipF
        cases hg : fAt fs k with
        | none => rfl
        | some g =>
          obtain ⟨a, ha, ea, rfl⟩ := fAt_some hg
          obtain ⟨b, hb, eb, rfl⟩ := fAt_some hf
          have : ¬ aliasF fs[a] = aliasF fs[b] := fun h => hk (by rw [ea, eb, hd a b ha hb h])
          simp [hne, this]
      rw [if_pos hs]
      refine hits_again hd hf hne hp ks ?_
      rcases List.mem_cons.1 h with h | h
      · exact absurd h.symm hk
      · exact h
theorem exprF_again (hd : Dist fs) {seen : List Int} (e : Ex') : ∀ e', exprF ts fs seen e = some e' → exprF ts fs seen e' = some e' := by
  refine exprF_rec (Q := fun _ e' => exprF ts fs seen e' = some e') ?_ ?_ e
  · intro e e' _ h
    obtain ⟨p, f, hp, hf, rfl⟩ := colF_some h
    rw [exprF_eq, op_mk, if_pos rfl]
    refine colF_one (e := .mk 15 (aliasF f) e.name p.1 p.2 zV []) (p := p) ?_ hf
    rw [tab_mk, name_mk]
    obtain ⟨h1, h2, h3⟩ := hits_mem seen p (by rw [hp]; simp)
    by_cases hne : aliasF f = ByteArray.empty
    · rcases h3 with h3 | h3
      · rw [hne, ← h3]; exact hp
      · rw [h3 f hf]; exact hp
    · exact hits_again hd hf hne h2 seen h1
  · intro e m h1 h2 h3
    rw [exprF_eq, op_mk, if_neg h1, l_mk]
    rw [exprFL_of (l := m) (m := m) rfl fun i a b => h3 i (by omega) a]
    rfl
/-- a column that is there -/
def ColIs (ts : List Tab) (fs : List Frm) (x : Ex') : Prop := ∃ (k j : Nat) (hk : k < fs.length) (hj : j < (foundT ts (fs[k]).tab).cols.length), x.t = k ∧ x.c = j ∧ ((foundT ts (fs[k]).tab).cols[j]).name = x.name
theorem colIx_at : ∀ {cols : List Col} {n : ByteArray} {i : Nat}, colIx cols n = some i → ∃ h : i < cols.length, (cols[i]).name = n := by
  intro cols n i h
  rw [colIx_find, List.findIdx?_eq_some_iff_getElem] at h
  obtain ⟨h1, h2, _⟩ := h
  exact ⟨h1, by simpa using h2⟩
theorem hitK_col {name : ByteArray} {p : Int × Int} (h : p ∈ hitK ts fs name p.1) (tab : ByteArray) (v : Val) (l : List Ex') : ColIs ts fs (.mk 15 tab name p.1 p.2 v l) := by
  unfold hitK at h
  split at h
  · cases h
  · rename_i f hf
    split at h
    · cases h
    · rename_i c hc
      simp at h
      obtain ⟨k, hk, ek, rfl⟩ := fAt_some hf
      have hs : (findT ts (fs[k]).tab).isSome = true := by
        cases hs : (findT ts (fs[k]).tab).isSome with
        | true => rfl
        | false => rw [columnR_none hs] at hc; cases hc
      rw [columnR_some hs] at hc
      cases hj : colIx (foundT ts (fs[k]).tab).cols name with
      | none => rw [hj] at hc; cases hc
      | some j =>
        rw [hj] at hc
        simp at hc
        obtain ⟨hj1, hj2⟩ := colIx_at hj
        have ep2 : p.2 = c := by rw [h]
        refine ⟨k, j, hk, hj1, ?_, ?_, ?_⟩
        · rw [t_mk, ek]
        · rw [c_mk, ep2, hc]
        · rw [name_mk, hj2]
theorem colsL_mem {x : Ex'} : ∀ {l : List Ex'}, x ∈ Ex'.colsL l → ∃ y, y ∈ l ∧ x ∈ y.cols
  | e :: l, h => by
    simp only [Ex'.colsL, List.mem_append] at h
    rcases h with h | h
    · exact ⟨e, by simp, h⟩
    · obtain ⟨y, h1, h2⟩ := colsL_mem h; exact ⟨y, by simp [h1], h2⟩
theorem exprF_cols {seen : List Int} (e : Ex') : ∀ e', exprF ts fs seen e = some e' → ∀ x, x ∈ e'.cols → ColIs ts fs x := by
  refine exprF_rec (Q := fun _ e' => ∀ x, x ∈ e'.cols → ColIs ts fs x) ?_ ?_ e
  · intro e e' _ h x hx
    obtain ⟨p, f, hp, hf, rfl⟩ := colF_some h
    rw [Ex'.cols_eq, op_mk, if_pos rfl] at hx
    simp at hx
    subst hx
    exact hitK_col (hits_mem seen p (by rw [hp]; simp)).2.1 _ _ _
  · intro e m h1 h2 h3 x hx
    rw [Ex'.cols_eq, op_mk, if_neg h1, l_mk] at hx
    obtain ⟨y, hy, hx⟩ := colsL_mem hx
    obtain ⟨i, hi, rfl⟩ := List.getElem_of_mem hy
    exact h3 i (by omega) hi x hx
theorem exprF_ok {seen : List Int} (hf : ∀ f, f ∈ fs → f.tab.size ≤ reachBytes ∧ f.al.size ≤ reachBytes) (e : Ex') : ∀ e', exprF ts fs seen e = some e' → OkE e → OkE e' := by
  refine exprF_rec (Q := fun e e' => OkE e → OkE e') ?_ ?_ e
  · intro e e' _ h he
    obtain ⟨p, f, hp, hg, rfl⟩ := colF_some h
    obtain ⟨k, hk, _, rfl⟩ := fAt_some hg
    obtain ⟨h1, h2⟩ := hf _ (List.getElem_mem hk)
    refine .mk (by simp) (by simp [valIn, zV]) ?_ ?_ (by simp)
    · rw [tab_mk]
      unfold aliasF
      split
      · exact h1
      · exact h2
    · rw [name_mk]; cases he; assumption
  · intro e m h1 h2 h3 he
    have hl := he.len
    have hs : ∀ x, x ∈ e.l → OkE x := fun x => he.sub
    cases he with
    | mk a b c d _ =>
      refine .mk (by rw [l_mk]; omega) (by simpa using b) (by simpa using c) (by simpa using d) ?_
      intro x hx
      rw [l_mk] at hx
      obtain ⟨i, hi, rfl⟩ := List.getElem_of_mem hx
      exact h3 i (by omega) hi (hs _ (List.getElem_mem _))
theorem nodesL_le : ∀ {l m : List Ex'}, m.length = l.length → (∀ i (h : i < l.length) (h' : i < m.length), (m[i]).nodes ≤ (l[i]).nodes) → Ex'.nodesL m ≤ Ex'.nodesL l
  | [], [], _, _ => Nat.le_refl _
  | [], _ :: _, h, _ => by simp at h
  | _ :: _, [], h, _ => by simp at h
  | e :: l, y :: m, h, hg => by
    have h0 : y.nodes ≤ e.nodes := hg 0 (by simp) (by simp)
    have h1 : Ex'.nodesL m ≤ Ex'.nodesL l := nodesL_le (by simpa using h) fun i a b => hg (i + 1) (by simpa using a) (by simpa using b)
    simp only [Ex'.nodesL]
    omega
theorem exprF_nodes {seen : List Int} (e : Ex') : ∀ e', exprF ts fs seen e = some e' → e'.nodes ≤ e.nodes := by
  refine exprF_rec (Q := fun e e' => e'.nodes ≤ e.nodes) ?_ ?_ e
  · intro e e' _ h
    obtain ⟨p, f, hp, hg, rfl⟩ := colF_some h
    rw [Ex'.nodes_eq, Ex'.nodes_eq e, l_mk]
    simp [Ex'.nodesL]
  · intro e m h1 h2 h3
    rw [Ex'.nodes_eq, Ex'.nodes_eq e, l_mk]
    have := nodesL_le h2 h3
    omega
theorem fromR_some {i : Nat} {f : Frm} (h : fromR ts fs i = some f) : ∃ hi : i < fs.length, rightF ts fs i = true ∧ ((i = 0 ∧ f = fs[i]) ∨ (¬ i = 0 ∧ ∃ y, exprF ts fs (seenF fs i) fs[i].on = some y ∧ f = { fs[i] with on := y })) := by
  unfold fromR at h
  split at h
  · cases h
  · rename_i g hg
    obtain ⟨hi, rfl⟩ := List.getElem?_eq_some_iff.1 hg
    refine ⟨hi, ?_⟩
    split at h
    · cases h
    · rename_i hr
      refine ⟨by simpa using hr, ?_⟩
      split at h
      · rename_i h0; simp at h; exact .inl ⟨h0, h.symm⟩
      · rename_i h0
        cases hy : exprF ts fs (seenF fs i) fs[i].on with
        | none => rw [hy] at h; cases h
        | some y => rw [hy] at h; simp at h; exact .inr ⟨h0, y, rfl, h.symm⟩
theorem fromsR_len : ∀ {n : Nat} {m : List Frm}, fromsR ts fs n = some m → m.length = n
  | 0, m, h => by simp [fromsR] at h; subst h; rfl
  | n + 1, m, h => by
    rw [fromsR] at h
    cases hp : fromsR ts fs n with
    | none => rw [hp] at h; cases h
    | some p =>
      rw [hp] at h
      dsimp only at h
      cases hf : fromR ts fs n with
      | none => rw [hf] at h; cases h
      | some f => rw [hf] at h; simp at h; subst h; simp [fromsR_len hp]
theorem fromsR_get : ∀ {n : Nat} {m : List Frm}, fromsR ts fs n = some m → ∀ i (h : i < m.length), fromR ts fs i = some m[i]
  | 0, m, h, i, hi => by simp [fromsR] at h; subst h; cases hi
  | n + 1, m, h, i, hi => by
    rw [fromsR] at h
    cases hp : fromsR ts fs n with
    | none => rw [hp] at h; cases h
    | some p =>
      rw [hp] at h
      dsimp only at h
      cases hf : fromR ts fs n with
      | none => rw [hf] at h; cases h
      | some f =>
        rw [hf] at h
        simp at h
        subst h
        have hl := fromsR_len hp
        rw [List.length_append, List.length_singleton] at hi
        by_cases h2 : i < p.length
        · rw [List.getElem_append_left h2]; exact fromsR_get hp i h2
        · have : i = n := by omega
          subst this
          rw [List.getElem_append_right (by omega)]
          simp [hl, hf]
theorem fromsR_of : ∀ {n : Nat} {m : List Frm}, m.length = n → (∀ i (h : i < m.length), fromR ts fs i = some m[i]) → fromsR ts fs n = some m
  | 0, m, h, _ => by rw [List.eq_nil_of_length_eq_zero h]; rfl
  | n + 1, m, h, hg => by
    have hd : m = m.take n ++ [m[n]] := by rw [← take_next (by omega), List.take_of_length_le (by omega)]
    have h1 : fromsR ts fs n = some (m.take n) := fromsR_of (by rw [List.length_take]; omega) fun i hi => by
      rw [List.length_take] at hi
      rw [List.getElem_take]
      exact hg i (by omega)
    rw [fromsR, h1]
    simp only [hg n (by omega), Option.map_some]
    rw [← hd]
theorem fromsR_bare {m : List Frm} (h : fromsR ts fs fs.length = some m) : m.map Frm.bare = fs.map Frm.bare := by
  have hl := fromsR_len h
  refine List.ext_getElem (by simp [hl]) fun i h1 h2 => ?_
  rw [List.getElem_map, List.getElem_map]
  rw [List.length_map] at h1 h2
  obtain ⟨_, _, h3 | ⟨_, y, _, h3⟩⟩ := fromR_some (fromsR_get h i h1)
  · rw [h3.2]
  · rw [h3]; rfl
theorem fromsR_dist {m : List Frm} (h : fromsR ts fs fs.length = some m) : Dist fs := by
  have hl := fromsR_len h
  have key : ∀ i j (hi : i < fs.length) (hj : j < fs.length), i < j → ¬ aliasF fs[i] = aliasF fs[j] := by
    intro i j hi hj hij he
    obtain ⟨_, hr, _⟩ := fromR_some (fromsR_get h j (by omega))
    have : twiceF fs j = true := by
      unfold twiceF
      rw [List.any_eq_true]
      refine ⟨fs[i], by rw [List.mem_take_iff_getElem]; exact ⟨i, by omega, rfl⟩, ?_⟩
      simp [hj, he]
    unfold rightF at hr
    rw [this] at hr
    simp at hr
  intro i j hi hj he
  rcases Nat.lt_trichotomy i j with h1 | h1 | h1
  · exact absurd he (key i j hi hj h1)
  · exact h1
  · exact absurd he.symm (key j i hj hi h1)
theorem resolveF_some {q p : Qry} (h : resolveF ts q = some p) : fromsR ts q.frm q.frm.length = some p.frm ∧ whrR ts q = some p.whr ∧ listF ts q.frm q.grp = some p.grp ∧ listF ts q.frm q.sel = some p.sel := by
  unfold resolveF at h
  split at h
  · rename_i a b c d h1 h2 h3 h4
    simp at h
    subst h
    exact ⟨h1, h2, h3, h4⟩
  · cases h
theorem same_bare {fs fs' : List Frm} (h : fs'.map Frm.bare = fs.map Frm.bare) : (∀ seen e, exprF ts fs' seen e = exprF ts fs seen e) ∧ (∀ n, seenF fs' n = seenF fs n) ∧ (∀ i, rightF ts fs' i = rightF ts fs i) ∧ fs'.length = fs.length := by
  refine ⟨fun seen e => ?_, fun n => ?_, fun i => ?_, ?_⟩
  · rw [← exprF_bare, h, exprF_bare]
  · rw [← seenF_bare, h, seenF_bare]
  · rw [← rightF_bare, h, rightF_bare]
  · have := congrArg List.length h; simpa using this
theorem list_again {fs' : List Frm} (h : fs'.map Frm.bare = fs.map Frm.bare) (hd : Dist fs) {l m : List Ex'} (hl : listF ts fs l = some m) : listF ts fs' m = some m := by
  obtain ⟨h1, h2, _, h4⟩ := same_bare (ts := ts) h
  have hlen := exprFL_len hl
  refine exprFL_of rfl fun i hi _ => ?_
  rw [h1, h4, h2]
  exact exprF_again hd _ _ (exprFL_get hl i (by omega) hi)
theorem resolve_again {q p : Qry} (h : resolveF ts q = some p) : resolveF ts p = some p := by
  obtain ⟨hf, hw, hg, hs⟩ := resolveF_some h
  have hb := fromsR_bare hf
  have hd := fromsR_dist hf
  obtain ⟨h1, h2, h3, h4⟩ := same_bare (ts := ts) hb
  have a1 : fromsR ts p.frm p.frm.length = some p.frm := by
    refine fromsR_of rfl fun i hi => ?_
    obtain ⟨hi', hr, h5⟩ := fromR_some (fromsR_get hf i hi)
    unfold fromR
    rw [List.getElem?_eq_getElem hi]
    dsimp only
    rw [h3, hr, if_neg (by simp)]
    by_cases h0 : i = 0
    · rw [if_pos h0]
    · rw [if_neg h0, h1, h2]
      rcases h5 with h5 | ⟨_, y, hy, h5⟩
      · exact absurd h5.1 h0
      · have := exprF_again hd _ _ hy
        rw [h5]
        dsimp only
        rw [this]
        rfl
  have a2 : whrR ts p = some p.whr := by
    unfold whrR at hw ⊢
    split at hw
    · rename_i h0
      simp at hw
      rw [← hw, if_pos h0]
    · rename_i h0
      have := exprF_again hd _ _ hw
      split
      · rfl
      · rw [h1, h4, h2]; exact this
  have a3 := list_again hb hd hg
  have a4 := list_again hb hd hs
  simp [resolveF, a1, a2, a3, a4]
end Go.Proofs.Ytaahlhhpmooliaa.PL
