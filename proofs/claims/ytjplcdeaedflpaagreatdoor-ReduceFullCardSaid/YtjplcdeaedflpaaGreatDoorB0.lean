/- Contracts of functions of the program, and plain laws (part 0): A range over a function, in the logic of plain values: straight code in a round, and behind a mark; A function that ranges over a function, in the logic of plain values; What the functions of values tell; What the functions of numbers tell; A slice that grows in a loop, from nil on  what else the call has made stands behind; What functions of lists of numbers tell; A slice of one thing, some times over. -/
import Derived.Test.YtjplcdeaedflpaaGreatDoorPLe
import Derived.Test.YtjplcdeaedflpaaGreatDoorTy
import Derived.RangeFuncRecord
import Derived.RangeFuncSeq
import Derived.RangeFuncCalls
import Derived.TacticsIn
import Derived.RangeFuncLeaves
import Derived.Laws.Externs
namespace Go.Proofs.YtjplcdeaedflpaaGreatDoor.PL
open Go.Proofs Go.RowKit
set_option linter.unusedVariables false
set_option linter.unusedSimpArgs false
theorem QR.no_out {N : Nat} {w0 : Bs} {Γ : Gh} {Q : Ex → Env → List HO → Prop} : ¬ LetsOut (QR N w0 Γ Q) := by
  rintro ⟨a, w, X, Γ', e, H, hx, _⟩
  cases X <;> cases hx
/-- a fence that lets all in, be it in a round -/
structure Open (P : Program) (F : Fence) : Prop where
  fn : ∀ f, F.fn f
  depth : F.depth = none
  calls : ∀ {n f args w R}, Calls P f args w R → CallsIn F n P f args w R
  rows : ∀ {n row args w R}, Rows P row args w R → RowsIn F n P row args w R
theorem Open.wide (P : Program) : Open P Fence.wide :=
  ⟨fun _ => trivial, rfl, fun h => callsIn_wide.2 h, fun h c cs _ => let ⟨v, w', r, s⟩ := h c cs; ⟨v, w', r, stepsIn_wide.2 s⟩⟩
theorem Open.round {P : Program} {F : Fence} (h : Open P F) (l : Nat) : Open P (F.inRound l) :=
  ⟨h.fn, h.depth, fun k => CallsIn.inRound l (h.calls k), fun k => h.rows k⟩
def notDefer (o : Oper) : Bool := match o.op with | .defer _ => false | _ => true
theorem notDefer_ne {o : Oper} (h : notDefer o = true) : ∀ c, o.op ≠ .defer c := fun c e => by simp [notDefer, e] at h
/-- what is asked, where some marks wait -/
def QD (ds : List Deferred) (Q : Exit → Act → World → Prop) : Exit → Act → World → Prop := fun x a w => a.defers = ds ∧ Q x { a with defers := [] } w
def lay (ds : List Deferred) (a : Act) : Act := { a with defers := ds }
theorem lay_put {ds : List Deferred} {a : Act} {d : Option Nat} {v : Value} : (lay ds a).put d v = lay ds (a.put d v) := by cases d <;> rfl
/-- who has put off a call cannot end with none -/
theorem no_defers {P : Program} {ops : Array Oper} {Q : Exit → Act → World → Prop} (hQ : ¬ LetsOut Q) (hn : ∀ x a w, Q x a w → a.defers = []) : ∀ (os : List Oper) (a : Act) (w : World), a.defers ≠ [] → ¬ wpList P ops Q os a w
  | [], a, w, hd, h => hd (hn _ _ _ h)
  | o :: os, a, w, hd, h => by
    have ih := fun (d : Option Nat) (v : Value) (a' : Act) (w : World) (hd : a'.defers ≠ []) => no_defers (P := P) (ops := ops) hQ hn os (a'.put d v) w (by cases d <;> exact hd)
    unfold wpList at h
    split at h
    · rcases h with h | ⟨_, h⟩
      · unfold Oper.wp at h
        revert h
        generalize (execOp a.eval o).run P w = r
        intro h
        cases r with
        | ok nx w' =>
          cases nx with
          | value v => exact ih _ _ _ _ hd h
          | skip => exact ih _ _ _ _ hd h
          | enter f args =>
            obtain ⟨e, w'', fr, h, _⟩ := (show Calls P f args w' _ from h) []
            cases e with
            | returned v => exact ih _ _ _ _ hd h
            | panicked chain => exact hd (hn _ _ _ h)
            | outgrown => exact hQ h
          | row row args =>
            obtain ⟨v, w'', h, _⟩ := (show Rows P row args w' _ from h) default []
            exact ih _ _ _ _ hd h
          | defer d => exact ih _ _ { a with defers := d :: a.defers } _ (by simp) h
          | _ => exact h.elim
        | halt hl w' =>
          cases hl with
          | panic v => exact hd (hn _ _ _ h)
          | _ => exact h.elim
      · exact hQ h
    · exact ih _ _ _ _ hd h
theorem ops_in {P : Program} {F : Fence} (hF : Open P F) {n : Nat} {ops : Array Oper} {Q : Exit → Act → World → Prop} (hQ : ¬ LetsOut Q) (hn : ∀ x a w, Q x a w → a.defers = []) (ds : List Deferred) (hok : ∀ o, o ∈ ops → notDefer o = true) : ∀ (os : List Oper) (a : Act) (w : World), (∀ o, o ∈ os → o ∈ ops) → a.defers = [] →
    wpList P ops Q os a w → wpListIn F n P ops (QD ds Q) os (lay ds a) w
  | [], a, w, _, hd, h => by
    refine ⟨rfl, ?_⟩
    have : ({ lay ds a with defers := [] } : Act) = a := by unfold lay; rw [← hd]
    rw [this]
    exact h
  | o :: os, a, w, hs, hd, h => by
    have hos : ∀ o, o ∈ os → o ∈ ops := fun o ho => hs o (List.mem_cons_of_mem _ ho)
    have ho := hok o (hs o List.mem_cons_self)
    have ih := fun (d : Option Nat) (v : Value) (w : World) (h : wpList P ops Q os (a.put d v) w) => ops_in hF (n := n) hQ hn ds hok os (a.put d v) w hos (by cases d <;> exact hd) h
    have back : ({ lay ds a with defers := [] } : Act) = a := by unfold lay; rw [← hd]
    unfold wpList at h
    unfold wpListIn
    have hw : Region.wanted o (yielded ops (lay ds a).tmps) = Region.wanted o (yielded ops a.tmps) := rfl
    rw [hw]
    split at h
    · rename_i hwt
      rw [if_pos hwt]
      rcases h with h | ⟨_, h⟩
      · refine ⟨fun f _ => hF.fn f, ?_⟩
        rw [Oper.semAt_eq _ _ _ (notDefer_ne ho)]
        unfold Oper.wp at h
        have he : (lay ds a).eval = a.eval := rfl
        rw [he]
        revert h
        generalize (execOp a.eval o).run P w = r
        intro h
        cases r with
        | ok nx w' =>
          cases nx with
          | value v => show wpListIn F n P ops (QD ds Q) os ((lay ds a).put _ _) w'; rw [lay_put]; exact ih _ _ _ h
          | skip => show wpListIn F n P ops (QD ds Q) os ((lay ds a).put _ _) w'; rw [lay_put]; exact ih _ _ _ h
          | enter f args =>
            refine ⟨(fun h => by rw [hF.depth] at h; cases h), hF.calls (Calls.mono h ?_)⟩
            intro e w''
            cases e with
            | returned v => intro h; show wpListIn F n P ops (QD ds Q) os ((lay ds a).put _ _) w''; rw [lay_put]; exact ih _ _ _ h
            | panicked chain => intro h; refine ⟨rfl, ?_⟩; rw [back]; exact h
            | outgrown => intro h; exact absurd h hQ
          | row row args =>
            refine ⟨(fun h => by rw [hF.depth] at h; cases h), hF.rows (Rows.mono h ?_)⟩
            intro v w'' h
            show wpListIn F n P ops (QD ds Q) os ((lay ds a).put _ _) w''
            rw [lay_put]; exact ih _ _ _ h
          | defer d => exact absurd h (no_defers hQ hn os _ _ (by cases o.dst <;> simp [Act.put]))
          | _ => exact h.elim
        | halt hl w' =>
          cases hl with
          | panic v => refine ⟨rfl, ?_⟩; rw [back]; exact h
          | _ => exact h.elim
      · exact absurd h hQ
    · rename_i hwt
      rw [if_neg hwt]
      exact ⟨fun f _ => hF.fn f, by rw [lay_put]; exact ih _ _ _ h⟩
/-- straight code -/
def strC : Code → Bool
  | .skip => true
  | .seq a b => strC a && strC b
  | .region _ ops draw => !draw && ops.all notDefer
  | .block _ c => strC c
  | .exit _ => true
  | .ret => true
  | _ => false
theorem lay_back {a : Act} {ds : List Deferred} (h : a.defers = ds) : lay ds ({ a with defers := [] } : Act) = a := by unfold lay; rw [← h]
theorem QD.mk {N : Nat} {w0 : Bs} {Γ Γ' : Gh} {Q : Ex → Env → List HO → Prop} {X : Ex} {e : Env} {H : List HO} {a : Act} {w : World} (ds : List Deferred) (le : Gh.Le Γ Γ') (r : R w0 Γ' H w) (he : RE N Γ' e a) (h : Q X e H) : QD ds (QR N w0 Γ Q) X.to (lay ds a) w := by
  refine ⟨rfl, ?_⟩
  have : ({ lay ds a with defers := [] } : Act) = a := by unfold lay; rw [← he.defers]
  rw [this]
  exact QR.mk le r he h
theorem vc_in {P : Program} {M : List Nat} {N : Nat} {F : Fence} (hF : Open P F) {n : Nat} (ds : List Deferred) : ∀ (c : Code) (Q : Ex → Env → List HO → Prop) (e : Env) (H : List HO), strC c = true → codeOk M N c = true → vc P M c Q e H →
    ∀ (w0 : Bs) (Γ : Gh) (a : Act) (w : World), R w0 Γ H w → RE N Γ e a → c.wpIn F n P (QD ds (QR N w0 Γ Q)) (lay ds a) w
  | .skip, Q, e, H, hi, hok, h, w0, Γ, a, w, hr, he => wpIn_skip (QD.mk (X := .normal) ds (Gh.Le.refl Γ) hr he h)
  | .exit id, Q, e, H, hi, hok, h, w0, Γ, a, w, hr, he => wpIn_exit (QD.mk (X := .exit id) ds (Gh.Le.refl Γ) hr he h)
  | .ret, Q, e, H, hi, hok, h, w0, Γ, a, w, hr, he => wpIn_ret (QD.mk (X := .ret) ds (Gh.Le.refl Γ) hr he h)
  | .region id ops draw, Q, e, H, hi, hok, h, w0, Γ, a, w, hr, he => by
    cases draw with
    | true => simp [strC] at hi
    | false =>
    simp only [strC, Bool.not_false, Bool.true_and] at hi
    have hnd : ∀ o, o ∈ ops → notDefer o = true := fun o ho => (Array.all_eq_true_iff_forall_mem.1 hi) o ho
    simp only [codeOk, Bool.and_eq_true] at hok
    have hops : ∀ o, o ∈ ops → operOk N ops o = true := fun o ho => (Array.all_eq_true_iff_forall_mem.1 hok.1) o ho
    simp only [vc, Bool.false_and, Bool.false_eq_true, if_false] at h
    have k := vcOps_wp (P := P) (M := M) hops (fun Γ' e' H' a' w' g1 g2 g3 g4 => QR.mk (X := .normal) (Q := Q) g1 g2 g3 g4) ops.size 0 e H Γ a w (by omega) (by simpa using h) (Gh.Le.refl Γ) hr he
    have k2 : wpList P ops (QR N w0 Γ Q) ops.toList a w := by
      rw [← wpOps_eq_wpList ops.toList 0 (by simp)]
      simpa using k
    refine wpIn_region_list (ops_in hF QR.no_out (fun x a w hq => ?_) ds hnd ops.toList a w (fun o ho => by simpa using ho) he.defers k2)
    obtain ⟨X, Γ', e', H', _, _, _, re, _⟩ := hq
    exact re.defers
  | .seq x y, Q, e, H, hi, hok, h, w0, Γ, a, w, hr, he => by
    simp only [codeOk, Bool.and_eq_true] at hok
    simp only [strC, Bool.and_eq_true] at hi
    refine wpIn_seq (wpIn_mono (vc_in hF ds x _ e H hi.1 hok.1 h w0 Γ a w hr he) ?_)
    rintro ex a' w' ⟨hd, X, Γ', e', H', rfl, g1, g2, g3, g4⟩
    rw [← lay_back hd]
    cases X with
    | normal =>
      refine wpIn_mono (vc_in hF ds y Q e' H' hi.2 hok.2 g4 w0 Γ' _ w' g2 g3) ?_
      rintro ex a2 w2 ⟨hd2, X, Γ2, e2, H2, rfl, k1, k2, k3, k4⟩
      rw [← lay_back hd2]
      exact QD.mk ds (g1.trans k1) k2 k3 k4
    | exit i => exact QD.mk (X := .exit i) ds g1 g2 g3 g4
    | ret => exact QD.mk (X := .ret) ds g1 g2 g3 g4
    | goto l => exact QD.mk (X := .goto l) ds g1 g2 g3 g4
  | .block id c, Q, e, H, hi, hok, h, w0, Γ, a, w, hr, he => by
    refine wpIn_block (wpIn_mono (vc_in hF ds c _ e H hi hok h w0 Γ a w hr he) ?_)
    rintro ex a' w' ⟨hd, X, Γ', e', H', rfl, g1, g2, g3, g4⟩
    rw [← lay_back hd]
    cases X with
    | normal => exact QD.mk (X := .normal) ds g1 g2 g3 g4
    | exit i =>
      simp only [Ex.to, Exit.inBlock]
      dsimp only at g4
      split at g4
      · rename_i hi; rw [if_pos hi]; exact QD.mk (X := .normal) ds g1 g2 g3 g4
      · rename_i hi; rw [if_neg hi]; exact QD.mk (X := .exit i) ds g1 g2 g3 g4
    | ret => exact QD.mk (X := .ret) ds g1 g2 g3 g4
    | goto l => exact QD.mk (X := .goto l) ds g1 g2 g3 g4
  | .cond .., _, _, _, hi, _, _, _, _, _, _, _, _ => by simp [strC] at hi
  | .loop .., _, _, _, hi, _, _, _, _, _, _, _, _ => by simp [strC] at hi
  | .scope .., _, _, _, hi, _, _, _, _, _, _, _, _ => by simp [strC] at hi
  | .label .., _, _, _, hi, _, _, _, _, _, _, _, _ => by simp [strC] at hi
  | .goto .., _, _, _, hi, _, _, _, _, _, _, _, _ => by simp [strC] at hi
  | .rangeFunc .., _, _, _, hi, _, _, _, _, _, _, _, _ => by simp [strC] at hi
  | .refuse .., _, _, _, hi, _, _, _, _, _, _, _, _ => by simp [strC] at hi
/-- a block beside -/
theorem R.rawNew {w0 : Bs} {Γ : Gh} {H : List HO} {w : World} (r : R w0 Γ H w) (x : Obj) : R w0 (Γ.addB H.length w.heap.size) (H ++ [.raw x]) (w.alloc x) := by
  refine r.push (.raw x) w.heap.size (below_alloc w x) (Gh.le_addB (r.fresh _ (Nat.le_refl _)).1) (Nat.le_refl _) (fun _ => ?_) (fun c o v h => .inl h) (fun i hi => by simp [Gh.addB, hi]) (fun i hi => rfl) rfl
  exact ⟨by simp [Gh.addB], heap_new w x, fun o => r.noI o⟩
/-- a block that turns -/
theorem R.turn {w0 : Bs} {Γ : Gh} {H : List HO} {w : World} (r : R w0 Γ H w) {i : Nat} {x : Obj} (hi : H[i]? = some (.raw x)) : ∃ b, Γ.B i = some b ∧ w.heap[b]? = some x ∧ ∀ y, R w0 Γ (H.set i (.raw y)) (w.putObj b y) := by
  obtain ⟨b, h1, h2, ⟨h3, h4, h5⟩, h6⟩ := r.put hi rfl
  refine ⟨b, h3, h4, fun y => h6 (.raw y) b Γ _ ⟨rfl, rfl, rfl, by simp, fun k _ hk => World.putObj_heap_other (fun e => hk (by rw [e]))⟩ (Gh.Le.refl Γ) (.inl rfl) (fun _ => ⟨h3, World.putObj_heap_same h2, h5⟩) (fun c o v h => .inl ⟨h, ?_⟩) (fun _ => rfl) (fun _ _ => rfl) rfl⟩
  rintro rfl
  rw [h5] at h
  cases h
/-- what a function tells to whoever ranges over it -/
def ItC (P : Program) (gf : FuncId) (caps : List AV) (xs : List (List AV)) (Fix : List HO → Prop) : Prop :=
  ∀ (w0 : Bs) (l : Nat) (Γ1 : Gh) (Inv : Nat → List HO → Prop), (∀ k H, Inv k H → Fix H) →
    (∀ (k : Nat) (Γ : Gh) (H : List HO) (W : World) (vs : List Value), k < xs.length → Gh.Le Γ1 Γ → R w0 Γ H W → Inv k H → VRs Γ (xs.getD k []) vs → YieldAt Fence.wide 0 P l vs.toArray W fun e W' => e = .returned (.bool true) ∧ ∃ Γ' H', Gh.Le Γ Γ' ∧ R w0 Γ' H' W' ∧ Inv (k + 1) H') →
    ∀ (Γ : Gh) (H : List HO) (W : World) (lb : List Value), Gh.Le Γ1 Γ → R w0 Γ H W → Inv 0 H → VRs Γ caps lb →
      CallsIn Fence.wide 1 P gf (#[.func (.yield l) #[] #[]] ++ lb.toArray) W fun e W' => (∃ v, e = .returned v) ∧ ∃ Γ' H', Gh.Le Γ Γ' ∧ R w0 Γ' H' W' ∧ Inv xs.length H'
def setps (e : Env) : List Nat → List AV → Env
  | p :: ps, x :: xs => setps (updo e (some p) x) ps xs
  | _, _ => e
def setvs (t : Array Value) : List Nat → List Value → Array Value
  | p :: ps, v :: vs => setvs (t.setIfInBounds p v) ps vs
  | _, _ => t
theorem zip_setvs : ∀ (ps : List Nat) (vs : List Value) (t : Array Value), (ps.zip vs).foldl (fun t (q : Nat × Value) => t.setIfInBounds q.1 q.2) t = setvs t ps vs
  | [], _, _ => rfl
  | _ :: _, [], _ => rfl
  | p :: ps, v :: vs, t => zip_setvs ps vs _
theorem RE.setps {N : Nat} {Γ : Gh} : ∀ (ps : List Nat) {e : Env} {t : Array Value} {xs : List AV} {vs : List Value}, RE N Γ e { tmps := t, defers := [] } → VRs Γ xs vs → (∀ p, p ∈ ps → p < N) → RE N Γ (setps e ps xs) { tmps := setvs t ps vs, defers := [] }
  | [], e, t, xs, vs, h, hv, _ => by
    cases hv <;> exact h
  | p :: ps, e, t, xs, vs, h, hv, hp => by
    cases hv with
    | nil => exact h
    | cons hx hxs => exact RE.setps ps (h.put (d := some p) hx) hxs fun q hq => hp q (List.mem_cons_of_mem _ hq)
def markD (D : Nat) : List Deferred := [{ target := .collected D, args := #[] }]
theorem range_in {P : Program} {M : List Nat} {N : Nat} {g : Operand} {ps : Array Tmp} {assign body : Code} {gf : FuncId} {caps : List AV} {xs : List (List AV)} {Fix : List HO → Prop} (it : ItC P gf caps xs Fix)
    (hok : codeOk M N assign = true) (hok2 : codeOk M N body = true) (h1 : strC assign = true) (h2 : strC body = true) (hgk : opnOk N g = true) (eg : ∀ args w, (callFunc gf args).run P w = .ok (.enter gf args) w)
    {e : Env} {H : List HO} (hg : evA e g = .fn (.func gf) [] caps) (hps : ∀ k, k < xs.length → (xs.getD k []).length = ps.size) (hpt : ∀ p, p ∈ ps.toList → p < N)
    (J : Nat → Obj → List HO → Prop) (hJ0 : ∀ x, J 0 x (H ++ [.raw (.deferred (some [])), .raw x]))
    (hJr : ∀ k x H', J k x H' → H'[H.length]? = some (.raw (.deferred (some []))) ∧ H'[H.length + 1]? = some (.raw x) ∧ Fix H' ∧ ∀ y, J k y (H'.set (H.length + 1) (.raw y)))
    (hbody : ∀ k x H', k < xs.length → J k x H' → vc P M assign (fun ex e1 H1 => ex = .normal ∧ H1 = H' ∧ ∀ y, vc P M body (fun ex e2 H2 => ex = .normal ∧ J (k + 1) y H2) e1 (H'.set (H.length + 1) (.raw y))) (setps e ps.toList (xs.getD k [])) H') :
    ∀ (w0 : Bs) (Γ : Gh) (a : Act) (w : World), R w0 Γ H w → RE N Γ e a →
      (Code.rangeFunc g ps assign body).wpIn Fence.wide 2 P (fun ex a' w' => ex = .normal ∧ ∃ Γ' H' D x, a' = lay (markD D) a ∧ Gh.Le Γ Γ' ∧ R w0 Γ' H' w' ∧ Γ'.B H.length = some D ∧ J xs.length x H') a w := by
  intro w0 Γ a w hr he
  refine wpIn_rangeFunc ?_
  intro fn hfn
  obtain ⟨rec, hrec⟩ : ∃ rec : LoopState → Option Code → Loop, rec = fun st pe => { state := st, pending := pe, fn, tmps := a.tmps, params := ps, assign, body, defers := w.heap.size } := ⟨_, rfl⟩
  obtain ⟨W1, hW1⟩ : ∃ W1, (w.alloc (.deferred (some []))).alloc (.loop (rec .ready none)) = W1 := ⟨_, rfl⟩
  have hs1 : (w.alloc (.deferred (some []))).heap.size = w.heap.size + 1 := by simp
  have r1 := hr.rawNew (.deferred (some []))
  have r2 := r1.rawNew (.loop (rec .ready none))
  rw [hW1, hs1] at r2
  rw [List.append_assoc] at r2
  simp only [List.length_append, List.length_singleton] at r2
  obtain ⟨Γ1, hΓ1⟩ : ∃ Γ1, (Γ.addB H.length w.heap.size).addB (H.length + 1) (w.heap.size + 1) = Γ1 := ⟨_, rfl⟩
  rw [hΓ1] at r2
  have le1 : Gh.Le Γ Γ1 := by
    rw [← hΓ1]
    refine (Gh.le_addB (hr.fresh _ (Nat.le_refl _)).1).trans (Gh.le_addB ?_)
    have := (hr.fresh (H.length + 1) (by omega)).1
    simp [Gh.addB, this]
  have bD : Γ1.B H.length = some w.heap.size := by rw [← hΓ1]; simp [Gh.addB]
  have bL : Γ1.B (H.length + 1) = some (w.heap.size + 1) := by rw [← hΓ1]; simp [Gh.addB]
  have hv := he.eval hgk
  rw [hg] at hv
  generalize hu : a.eval g = u at hv
  cases hv with
  | @fn _ _ _ us lb h h' =>
  cases h
  refine ⟨w.heap.size + 1, markD w.heap.size, W1, { target := .fn (.func gf) lb.toArray, args := #[.func (.yield (w.heap.size + 1)) #[] #[]] }, W1, gf, #[.func (.yield (w.heap.size + 1)) #[] #[]] ++ lb.toArray, W1, ?_, ?_, fun _ _ => trivial, ?_, fun _ => by decide, ?_⟩
  · rw [← hW1, hrec]; exact run_enterLoop_outer _ _ _ _ _
  · simp only [resolve, hu]
    simp [go_sem]
  · simp [invoke, go_sem, eg]
  refine (it w0 (w.heap.size + 1) Γ1 (fun k H' => J k (.loop (rec .ready none)) H') (fun k H' hj => (hJr k _ H' hj).2.2.1) ?_ Γ1 _ W1 lb (Gh.Le.refl _) r2 (hJ0 _) (h'.mono le1)).mono ?_
  · intro k Γ2 H2 W vs hk le2 r2 hj hvs
    obtain ⟨q1, q2, q3, q4⟩ := hJr k _ H2 hj
    obtain ⟨b, hb1, hb2, _⟩ := r2.turn q2
    have hbe : b = w.heap.size + 1 := by
      have := le2.B _ _ bL
      rw [hb1] at this
      exact Option.some.inj this
    subst hbe
    have hy := run_yield (P := P) (args := vs.toArray) hb2 (by rw [hrec]; simp; rw [← hvs.length]; exact hps k hk)
    rw [hrec] at hy
    refine ⟨fn, _, assign, body, hy, roundIn_of_wpIn hfn ?_⟩
    have hre : RE N Γ2 (setps e ps.toList (xs.getD k [])) { tmps := setvs a.tmps ps.toList vs, defers := [] } := RE.setps ps.toList (t := a.tmps) (by
      have : ({ tmps := a.tmps, defers := [] } : Act) = a := by rw [← he.defers]
      rw [this]
      exact he.mono (le1.trans le2)) hvs hpt
    have htm : (ps.zip vs.toArray).foldl (fun t (q : Nat × Value) => t.setIfInBounds q.1 q.2) a.tmps = setvs a.tmps ps.toList vs := by
      rw [← zip_setvs, ← Array.foldl_toList, Array.toList_zip]
    have ha := vc_in ((Open.wide P).round (w.heap.size + 1)) (n := 0) [] assign _ _ _ h1 hok (hbody k _ H2 hk hj) w0 Γ2 _ W r2 hre
    rw [← htm] at ha
    refine wpIn_mono ha ?_
    rintro ex a' w' ⟨hd, X, Γ3, e3, H3, rfl, le3, r3, re3, rfl, rfl, hbd⟩
    obtain ⟨b, hb1, hb2, hb3⟩ := r3.turn q2
    have hbe : b = w.heap.size + 1 := by
      have := (le2.trans le3).B _ _ bL
      rw [hb1] at this
      exact Option.some.inj this
    subst hbe
    refine ⟨_, run_beginRound hb2 (by rw [hrec]), ?_⟩
    have hb := vc_in ((Open.wide P).round (w.heap.size + 1)) (n := 0) [] body _ _ _ h2 hok2 (hbd _) w0 Γ3 _ _ (hb3 (.loop { rec .ready none with state := .busy })) re3
    rw [lay_back hd] at hb
    refine wpIn_mono hb ?_
    rintro ex a4 w4 ⟨hd4, X, Γ5, e5, H5, rfl, le5, r5, re5, rfl, hj5⟩
    obtain ⟨z1, z2, z3, z4⟩ := hJr (k + 1) _ H5 hj5
    obtain ⟨b, hb1, hb2, hb3⟩ := r5.turn z2
    have hbe : b = w.heap.size + 1 := by
      have := ((le2.trans le3).trans le5).B _ _ bL
      rw [hb1] at this
      exact Option.some.inj this
    subst hbe
    have hend := run_endRound (P := P) none hb2
    rw [hrec] at hend ⊢
    exact ⟨_, _, hend, rfl, Γ5, _, le3.trans le5, hb3 _, z4 _⟩
  · rintro ex W2 ⟨⟨v, rfl⟩, Γ', H', le', r', hj⟩
    obtain ⟨z1, z2, z3, z4⟩ := hJr _ _ H' hj
    obtain ⟨b, hb1, hb2, hb3⟩ := r'.turn z2
    have hbe : b = w.heap.size + 1 := by
      have := le'.B _ _ bL
      rw [hb1] at this
      exact Option.some.inj this
    subst hbe
    have hend := run_endLoop (P := P) hb2 (by rw [hrec]; simp)
    rw [hrec] at hend
    refine ⟨none, _, hend, rfl, Γ', _, w.heap.size, _, ?_, le1.trans le', hb3 _, le'.B _ _ bD, z4 _⟩
    unfold lay
    rw [he.defers]
    rfl
end Go.Proofs.YtjplcdeaedflpaaGreatDoor.PL
namespace Go.Proofs.YtjplcdeaedflpaaGreatDoor.PL
open Go.Proofs Go.RowKit
set_option linter.unusedVariables false
set_option linter.unusedSimpArgs false
/-- the round's code, and what follows it -/
structure RngK (P : Program) (M : List Nat) (N : Nat) (rs : List ResultVar) (g : Operand) (gf : FuncId) (caps : List AV) (xs : List (List AV)) (Fix : List HO → Prop) (ps : List Nat) (assign body rest : Code) (K : AV → List HO → Prop) (X : Ex) (e : Env) (H : List HO) : Prop where
  nrm : X = .normal
  fun' : evA e g = .fn (.func gf) [] caps
  ex : ∃ J : Nat → Obj → List HO → Prop, (∀ x, J 0 x (H ++ [.raw (.deferred (some [])), .raw x])) ∧
    (∀ k x H', J k x H' → H'[H.length]? = some (.raw (.deferred (some []))) ∧ H'[H.length + 1]? = some (.raw x) ∧ Fix H' ∧ ∀ y, J k y (H'.set (H.length + 1) (.raw y))) ∧
    (∀ k x H', k < xs.length → J k x H' → vc P M assign (fun ex e1 H1 => ex = .normal ∧ H1 = H' ∧ ∀ y, vc P M body (fun ex e2 H2 => ex = .normal ∧ J (k + 1) y H2) e1 (H'.set (H.length + 1) (.raw y))) (setps e ps (xs.getD k [])) H') ∧
    ∀ x H', J xs.length x H' → vc P M rest (fun x e2 H2 => (x = .normal ∨ x = .ret) ∧ H2[H.length]? = some (.raw (.deferred (some []))) ∧ resS P N rs e2 (H2.set H.length (.raw (.deferred none))) ∧ K (oneV (resV P rs e2 (H2.set H.length (.raw (.deferred none))))) (H2.set H.length (.raw (.deferred none)))) e H'
theorem TS.ranged {P : Program} (M : List Nat) {f : FuncId} {fn : Func} {c0 c1 c2 rest assign body : Code} {b0 : Nat} {g : Operand} {ps : Array Tmp} {args : List AV} {H : List HO} {K : AV → List HO → Prop} (hf : P.funcs[f]? = some fn) (hn : (fn.name == "runtime.NumGoroutine") = false)
    (hb : fn.body = some (.seq c0 (.seq c1 (.seq (.seq c2 (.block b0 (.rangeFunc g ps assign body))) rest))))
    (hok : (codeOk M fn.ntmps c0 && codeOk M fn.ntmps c1 && codeOk M fn.ntmps c2 && codeOk M fn.ntmps assign && codeOk M fn.ntmps body && codeOk M fn.ntmps rest && strC c0 && strC c1 && strC c2 && strC assign && strC body && strC rest && opnOk fn.ntmps g && ps.toList.all (fun p => decide (p < fn.ntmps))) = true)
    (hlen : args.length ≤ fn.ntmps) {gf : FuncId} {caps : List AV} {xs : List (List AV)} {Fix : List HO → Prop} (it : ItC P gf caps xs Fix) (eg : ∀ args w, (callFunc gf args).run P w = .ok (.enter gf args) w)
    (hps : ∀ k, k < xs.length → (xs.getD k []).length = ps.size)
    (h : vc P M (.seq c0 (.seq c1 c2)) (RngK P M fn.ntmps fn.results.toList g gf caps xs Fix ps.toList assign body rest K) (envOf args) H) : TS P f args H K := by
  simp only [Bool.and_eq_true] at hok
  obtain ⟨⟨⟨⟨⟨⟨⟨⟨⟨⟨⟨⟨⟨o1, o2⟩, o3⟩, o4⟩, o5⟩, o6⟩, s1⟩, s2⟩, s3⟩, s4⟩, s5⟩, s6⟩, o7⟩, o8⟩ := hok
  have hpt : ∀ p, p ∈ ps.toList → p < fn.ntmps := fun p hp => by simpa using List.all_eq_true.1 o8 p hp
  refine fun w0 Γ w vs hr hv => .inl ⟨⟨fn, hf, hn, by rw [hb]; rfl⟩, (callsIn_wide (n := 2)).1 (callsIn_of_wp_marks hf hb trivial ?_ rfl)⟩
  have hl := hv.length
  have he : RE fn.ntmps Γ (envOf args) { tmps := vs.toArray ++ Array.replicate (fn.ntmps - vs.toArray.size) undef, defers := [] } := by
    refine ⟨by simp; omega, rfl, fun t ht => ?_⟩
    unfold envOf
    rcases Nat.lt_or_ge t args.length with h | h
    · obtain ⟨v, h1, h2⟩ := hv.get t args[t] (List.getElem?_eq_getElem h)
      have e1 : args.getD t (.tup []) = args[t] := by simp [h]
      have e2 : (vs.toArray ++ Array.replicate (fn.ntmps - vs.toArray.size) undef).getD t undef = v := by
        rw [Array.getD_eq_getD_getElem?, Array.getElem?_append_left (by simp; omega)]
        simp [h1]
      rw [e1, e2]
      exact h2
    · have e1 : args.getD t (.tup []) = .tup [] := by simp [h]
      have e2 : (vs.toArray ++ Array.replicate (fn.ntmps - vs.toArray.size) undef).getD t undef = undef := by
        rw [Array.getD_eq_getD_getElem?, Array.getElem?_append_right (by simp; omega), Array.getElem?_replicate]
        split <;> rfl
      rw [e1, e2]
      exact .tup .nil
  have hz : (lay [] { tmps := vs.toArray ++ Array.replicate (fn.ntmps - vs.toArray.size) undef, defers := [] } : Act) = { tmps := vs.toArray ++ Array.replicate (fn.ntmps - vs.toArray.size) undef, defers := [] } := rfl
  have k0 := vc_in (Open.wide P) (n := 2) [] c0 _ _ H s1 o1 h w0 Γ _ w hr he
  rw [hz] at k0
  refine wpIn_seq (wpIn_mono k0 ?_)
  rintro ex a1 w1 ⟨hd1, X, Γ1, e1, H1, rfl, le1, r1, re1, h1⟩
  cases X with
  | exit i => cases h1.nrm
  | ret => cases h1.nrm
  | goto l => cases h1.nrm
  | normal =>
  have k1 := vc_in (Open.wide P) (n := 2) [] c1 _ _ H1 s2 o2 h1 w0 Γ1 _ w1 r1 re1
  rw [lay_back hd1] at k1
  refine wpIn_seq (wpIn_mono k1 ?_)
  rintro ex a2 w2 ⟨hd2, X, Γ2, e2, H2, rfl, le2, r2, re2, h2⟩
  cases X with
  | exit i => cases h2.nrm
  | ret => cases h2.nrm
  | goto l => cases h2.nrm
  | normal =>
  have k2 := vc_in (Open.wide P) (n := 2) [] c2 _ _ H2 s3 o3 h2 w0 Γ2 _ w2 r2 re2
  rw [lay_back hd2] at k2
  refine wpIn_seq (wpIn_seq (wpIn_mono k2 ?_))
  rintro ex a3 w3 ⟨hd3, X, Γ3, e3, H3, rfl, le3, r3, re3, h3⟩
  obtain ⟨rfl, hg, J, hJ0, hJr, hJb, hrest⟩ := h3
  have kr := range_in it o4 o5 s4 s5 o7 eg hg hps hpt J hJ0 hJr hJb w0 Γ3 _ w3 r3 re3
  have hz3 : ({ a3 with defers := [] } : Act) = a3 := by rw [← hd3]
  rw [hz3] at kr re3
  refine wpIn_block (wpIn_mono kr ?_)
  rintro ex a4 w4 ⟨rfl, Γ4, H4, D, x, rfl, le4, r4, bD, hj⟩
  refine wpIn_mono (vc_in (Open.wide P) (n := 2) (markD D) rest _ e3 H4 s6 o6 (hrest x H4 hj) w0 Γ4 a3 w4 r4 (re3.mono le4)) ?_
  rintro ex a5 w5 ⟨hd5, X, Γ5, e5, H5, rfl, le5, r5, re5, hX, hraw, hres, hK⟩
  obtain ⟨b, b1, b2, b3⟩ := r5.turn hraw
  have hbe : b = D := by
    have := le5.B _ _ bD
    rw [b1] at this
    exact Option.some.inj this
  subst hbe
  obtain ⟨v, m1, m2⟩ := results_run' (b3 (.deferred none)) re5 hres
  have fin : LeavesInM Fence.wide 2 P fn a5.tmps (fun e w' => ∃ Γ' v r H', e = .returned v ∧ Gh.Le Γ Γ' ∧ VR Γ' r v ∧ R w0 Γ' H' w' ∧ K r H') a5.defers .returning w5 := by
    rw [hd5]
    refine ⟨by simp, .inl ⟨b, _, rfl, run_takeDeferred b2, ?_⟩⟩
    exact ⟨v, m1, Γ5, v, _, _, rfl, (((le1.trans le2).trans le3).trans le4).trans le5, m2, b3 _, hK⟩
  rcases hX with rfl | rfl
  · exact fin
  · exact fin
end Go.Proofs.YtjplcdeaedflpaaGreatDoor.PL
namespace Go.Proofs.YtjplcdeaedflpaaGreatDoor.PL
open Go.Proofs
set_option linter.unusedVariables false
set_option linter.unusedSimpArgs false

structure Val where
  k : Int
  i : Int
  s : ByteArray
@[simp] abbrev Val.av (v : Val) : AV := .agg [.int .i64 v.k, .int .i64 v.i, .str v.s]
instance : Sized Val.av 3 := ⟨fun _ => rfl⟩
instance : Plain Val.av := ⟨fun _ => rfl⟩

def ints (a b : Int) : Int := if a < b then -1 else if a > b then 1 else 0
def texts : List UInt8 → List UInt8 → Int
  | [], [] => 0
  | [], _ :: _ => -1
  | _ :: _, [] => 1
  | x :: xs, y :: ys => if x = y then texts xs ys else if x < y then -1 else 1
theorem T_ints (a b : Int) : T Tryz.prog 161 [.int .i64 a, .int .i64 b] (.int .i64 (ints a b)) := by
  refine T.intro (TS.body mix Tryz.func161 (by kernel_rfl) rfl (by kernel_rfl) (by simp) ?_)
  simp [condK_iff, ints]
  omega
theorem T_isNaN_int (a : Int) : T Tryz.prog 168 [.int .i64 a] (.bool false) := by
  refine T.intro (TS.body mix Tryz.func168 (by kernel_rfl) rfl (by kernel_rfl) (by simp) ?_)
  simp
theorem T_isNaN_string (a : ByteArray) : T Tryz.prog 186 [.str a] (.bool false) := by
  refine T.intro (TS.body mix Tryz.func186 (by kernel_rfl) rfl (by kernel_rfl) (by simp) ?_)
  simp
theorem T_cmp_int (a b : Int) : T Tryz.prog 181 [.int .i64 a, .int .i64 b] (.int .i64 (ints a b)) := by
  refine T.intro (TS.body mix Tryz.func181 (by kernel_rfl) rfl (by kernel_rfl) (by simp) ?_)
  simp
  (first | refine TS.call' (T_isNaN_int a) (by simp) ?_ | refine TDK.call' (T_isNaN_int a) (by simp) ?_ | refine GTK.call (fun _ => ⟨T_isNaN_int a, by simp⟩) ?_ | refine TS.call (T_isNaN_int a) (by simp) ?_ | refine TDK.call (T_isNaN_int a) (by simp) ?_); simp
  (first | refine TS.call' (T_isNaN_int b) (by simp) ?_ | refine TDK.call' (T_isNaN_int b) (by simp) ?_ | refine GTK.call (fun _ => ⟨T_isNaN_int b, by simp⟩) ?_ | refine TS.call (T_isNaN_int b) (by simp) ?_ | refine TDK.call (T_isNaN_int b) (by simp) ?_); simp
  simp [condK_iff, ints]
  omega
theorem less_iff : ∀ a b : List UInt8, Op.bytesLess a b = decide (texts a b = -1) := by
  intro a
  induction a with
  | nil => intro b; cases b <;> simp [Op.bytesLess, texts]
  | cons x xs ih =>
    intro b
    cases b with
    | nil => simp [Op.bytesLess, texts]
    | cons y ys =>
      simp only [Op.bytesLess, texts, ih]
      by_cases h : x = y
      · subst h; simp
      · by_cases h' : x < y <;> simp [h, h']
theorem texts_zero : ∀ a b : List UInt8, texts a b = 0 ↔ a = b := by
  intro a
  induction a with
  | nil => intro b; cases b <;> simp [texts]
  | cons x xs ih =>
    intro b
    cases b with
    | nil => simp [texts]
    | cons y ys =>
      simp only [texts]
      by_cases h : x = y
      · subst h; simp [ih]
      · by_cases h' : x < y <;> simp [h, h']
theorem texts_vals : ∀ a b : List UInt8, texts a b = -1 ∨ texts a b = 0 ∨ texts a b = 1 := by
  intro a
  induction a with
  | nil => intro b; cases b <;> simp [texts]
  | cons x xs ih =>
    intro b
    cases b with
    | nil => simp [texts]
    | cons y ys =>
      simp only [texts]
      by_cases h : x = y
      · subst h; simpa using ih ys
      · by_cases h' : x < y <;> simp [h, h']
theorem T_cmp_string (a b : ByteArray) : T Tryz.prog 182 [.str a, .str b] (.int .i64 (texts a.toList b.toList)) := by
  refine T.intro (TS.body mix Tryz.func182 (by kernel_rfl) rfl (by kernel_rfl) (by simp) ?_)
  simp
  (first | refine TS.call' (T_isNaN_string a) (by simp) ?_ | refine TDK.call' (T_isNaN_string a) (by simp) ?_ | refine GTK.call (fun _ => ⟨T_isNaN_string a, by simp⟩) ?_ | refine TS.call (T_isNaN_string a) (by simp) ?_ | refine TDK.call (T_isNaN_string a) (by simp) ?_); simp
  (first | refine TS.call' (T_isNaN_string b) (by simp) ?_ | refine TDK.call' (T_isNaN_string b) (by simp) ?_ | refine GTK.call (fun _ => ⟨T_isNaN_string b, by simp⟩) ?_ | refine TS.call (T_isNaN_string b) (by simp) ?_ | refine TDK.call (T_isNaN_string b) (by simp) ?_); simp
  simp [less_iff, condK_iff]
  have h1 := texts_zero a.toList b.toList
  rw [toList_inj] at h1
  have h2 := texts_vals a.toList b.toList
  grind
theorem T_texts (a b : ByteArray) (ha : a.size < 4611686018427387904) : T Tryz.prog 162 [.str a, .str b] (.int .i64 (texts a.toList b.toList)) := by
  refine T.intro (TS.body mix Tryz.func162 (by kernel_rfl) rfl (by kernel_rfl) (by simp) ?_)
  simp
  refine vc_loop (fun i : Nat => a.size - i) (fun i e H => e 0 = .str a ∧ e 1 = .str b ∧ e 5 = .int .i64 i ∧ i ≤ a.size ∧ i ≤ b.size ∧ texts a.toList b.toList = texts (a.toList.drop i) (b.toList.drop i)) 0 ?_ ?_
  · simp
  rintro i e H ⟨h0, h1, h5, hia, hib, ht⟩
  have la := toList_length a
  have lb := toList_length b
  by_cases h : i < a.size ∧ i < b.size
  · have la' : i < a.toList.length := by omega
    have lb' : i < b.toList.length := by omega
    have ea : a.toList.drop i = _ := List.drop_eq_getElem_cons la'
    have eb : b.toList.drop i = _ := List.drop_eq_getElem_cons lb'
    simp [h0, h1, h5, h.1, h.2, byteAt_get la', byteAt_get lb']
    refine condK_of (fun h' => ?_) (fun h' => ?_)
    · simp at h'
      have h2 : a.toList[i] ≠ b.toList[i] := fun x => h' (by rw [x])
      simp [h0, h1, h5, h.1, h.2, byteAt_get la', byteAt_get lb']
      refine condK_of (fun h3 => ?_) (fun h3 => ?_)
      · simp at h3
        simp
        rw [ht, ea, eb, texts, if_neg h2, if_pos (UInt8.lt_iff_toNat_lt.2 h3)]
      · simp at h3
        simp
        rw [ht, ea, eb, texts, if_neg h2, if_neg (fun x => by have := UInt8.lt_iff_toNat_lt.1 x; omega)]
    · simp at h'
      simp [h0, h1, h5, h.1, h.2]
      refine ⟨i + 1, by omega, by rw [wrap_i64 (by omega) (by omega)]; simp, h.1, h.2, ?_⟩
      have h2 : a.toList[i] = b.toList[i] := UInt8.toNat_inj.1 (by exact_mod_cast h')
      rw [ht, ea, eb, texts, if_pos h2]
  · have hn : ¬ (i < a.size ∧ i < b.size) := h
    have e1 : (decide (i < a.size) && decide (i < b.size)) = false := by simp; omega
    simp [h0, h1, h5, e1, condK_iff]
    rw [ht]
    by_cases h1 : i < a.size
    · have ea : a.toList.drop i = _ := List.drop_eq_getElem_cons (by omega)
      have eb : b.toList.drop i = [] := List.drop_of_length_le (by omega)
      rw [ea, eb]
      simp only [texts]
      grind
    · have ea : a.toList.drop i = [] := List.drop_of_length_le (by omega)
      by_cases h2 : i < b.size
      · have eb : b.toList.drop i = _ := List.drop_eq_getElem_cons (by omega)
        rw [ea, eb]
        simp only [texts]
        grind
      · have eb : b.toList.drop i = [] := List.drop_of_length_le (by omega)
        rw [ea, eb]
        simp only [texts]
        grind
def orInt : List Int → Int
  | [] => 0
  | n :: l => if n = 0 then orInt l else n
theorem T_or_int (l : List Int) (hl : l.length < 4611686018427387904) : T Tryz.prog 180 [.sl .exact (l.map fun n => .int .i64 n)] (.int .i64 (orInt l)) := by
  refine T.intro (TS.body mix Tryz.func180 (by kernel_rfl) rfl (by kernel_rfl) (by simp) ?_)
  simp
  refine vc_loop (fun i : Nat => l.length - i) (fun i e H => e 6 = .sl .exact (l.map fun n => .int .i64 n) ∧ e 7 = .int .i64 l.length ∧ e 8 = .int .i64 i ∧ e 3 = .int .i64 0 ∧ i ≤ l.length ∧ orInt l = orInt (l.drop i)) 0 ?_ ?_
  · simp
  rintro i e H ⟨h6, h7, h8, h3, hi, hz⟩
  rw [hz]
  by_cases h : i < l.length
  · simp [h6, h7, h8, h3, h]
    refine condK_of (fun h' => ?_) (fun h' => ?_)
    · have h' : ¬ l[i] = 0 := by simpa using h'
      simp
      rw [List.drop_eq_getElem_cons h, orInt, if_neg h']
    · have h' : l[i] = 0 := by simpa using h'
      simp [h6, h7, h8, h3]
      exact ⟨i + 1, by omega, by rw [wrap_i64 (by omega) (by omega)]; simp, by omega, by rw [List.drop_eq_getElem_cons h]; simp [orInt, h']⟩
  · have : i = l.length := by omega
    subst this
    simp [h6, h7, h8, h3, orInt]
def order (a b : Val) : Int := if a.k ≠ b.k then ints a.k b.k else if a.i ≠ b.i then ints a.i b.i else texts a.s.toList b.s.toList
theorem T_rorder (a b : Val) (ha : a.s.size < 4611686018427387904) : T Tryz.prog 141 [a.av, b.av] (.int .i64 (order a b)) := by
  refine T.intro (TS.body mix Tryz.func141 (by kernel_rfl) rfl (by kernel_rfl) (by simp) ?_)
  simp
  refine condK_of (fun h => ?_) (fun h => ?_)
  · simp at h
    simp
    refine TS.call' (T_ints _ _) (by simp) ?_
    simp [order, h]
  · simp at h
    simp [order, h]
    refine condK_of (fun h2 => ?_) (fun h2 => ?_)
    · simp at h2
      simp
      refine TS.call' (T_ints _ _) (by simp) ?_
      simp [h2]
    · simp at h2
      simp
      refine TS.call' (T_texts _ _ ha) (by simp) ?_
      simp [h2]
theorem ints_zero (a b : Int) : ints a b = 0 ↔ a = b := by unfold ints; split <;> (try split) <;> omega
theorem T_order (a b : Val) : T Tryz.prog 173 [a.av, b.av] (.int .i64 (order a b)) := by
  refine T.intro (TS.body mix Tryz.func173 (by kernel_rfl) rfl (by kernel_rfl) (by simp) ?_)
  simp
  refine TDK.call' (T_cmp_int _ _) (by simp) ?_
  simp
  refine TDK.call' (T_cmp_int _ _) (by simp) ?_
  simp
  refine TDK.call' (T_cmp_string _ _) (by simp) ?_
  simp
  refine TDK.call (T_or_int [ints a.k b.k, ints a.i b.i, texts a.s.toList b.s.toList] (by show 3 < _; omega)) (by simp) ?_
  simp [order, orInt, ints_zero]
  by_cases h : a.k = b.k <;> by_cases h' : a.i = b.i <;> simp [h, h'] <;> (intro e; exact e.symm)
theorem T_rcmp (a b : Val) (ha : a.s.size < 4611686018427387904) : T Tryz.prog 128 [a.av, b.av] (.tup [.int .i64 (if a.k = b.k ∧ (a.k = 1 ∨ a.k = 2) then order a b else 0), .bool (decide (a.k = b.k ∧ (a.k = 1 ∨ a.k = 2)))]) := by
  refine T.intro (TS.body mix Tryz.func128 (by kernel_rfl) rfl (by kernel_rfl) (by simp) ?_)
  simp
  refine ⟨by grind, by grind, condK_of (fun h => ?_) (fun h => ?_)⟩
  · simp at h
    simp
    refine TS.call' (T_rorder a b ha) (by simp) ?_
    simp
    grind
  · simp at h
    simp
    grind
theorem T_rsame (a b : Val) : T Tryz.prog 83 [a.av, b.av] (.bool (decide (a.k = b.k ∧ a.i = b.i ∧ a.s = b.s))) := by
  refine T.intro (TS.body mix Tryz.func83 (by kernel_rfl) rfl (by kernel_rfl) (by simp) ?_)
  simp [Bool.and_assoc]
  grind

theorem T_cmp (a b : Val) : T Tryz.prog 154 [a.av, b.av] (.tup [.int .i64 (if a.k = b.k ∧ (a.k = 1 ∨ a.k = 2) then order a b else 0), .bool (decide (a.k = b.k ∧ (a.k = 1 ∨ a.k = 2)))]) := by
  refine T.intro (TS.body mix Tryz.func154 (by kernel_rfl) rfl (by kernel_rfl) (by simp) ?_)
  simp
  refine ⟨by grind, by grind, condK_of (fun h => ?_) (fun h => ?_)⟩
  · simp at h
    simp
    grind
  · simp at h
    simp
    refine TS.call' (T_order a b) (by simp) ?_
    simp
    grind




theorem order_zero (a b : Val) : order a b = 0 ↔ a.k = b.k ∧ a.i = b.i ∧ a.s = b.s := by
  unfold order
  by_cases h : a.k = b.k <;> by_cases h' : a.i = b.i <;> simp [h, h', ints_zero, texts_zero, toList_inj]

theorem Val_in {cs : List AV} (h : Sh Tryz.prog 58 cs) : ∃ v : Val, mkAV true cs = v.av ∧ cs = [.int .i64 v.k, .int .i64 v.i, .str v.s] ∧ (-9223372036854775808 ≤ v.k ∧ v.k < 9223372036854775808) ∧ (-9223372036854775808 ≤ v.i ∧ v.i < 9223372036854775808) ∧ v.s.size ≤ reachBytes := by
  obtain ⟨hl, hf⟩ := h.struct_of ft_58
  obtain ⟨x, y, z, rfl⟩ : ∃ x y z, cs = [x, y, z] := by
    match cs, hl with
    | [x, y, z], _ => exact ⟨x, y, z, rfl⟩
  obtain ⟨k, h1, w1⟩ := (hf (3, 0, 1) (by simp)).int_of un_3
  obtain ⟨i, h2, w2⟩ := (hf (3, 1, 1) (by simp)).int_of un_3
  obtain ⟨s, h3, w3⟩ := (hf (9, 2, 1) (by simp)).str_of un_9
  simp at h1 h2 h3
  subst h1; subst h2; subst h3
  exact ⟨⟨k, i, s⟩, rfl, rfl, i64_wf w1, i64_wf w2, w3⟩
theorem isByte_int {n : Int} : isByte (.int .u8 n) = (0 ≤ n ∧ n < 256) := rfl
theorem avByte_int {k : IntKind} {n : Int} : avByte (.int k n) = UInt8.ofNat n.toNat := rfl
def dig (x : Nat) (j : Nat) : UInt8 := UInt8.ofNat (x / 256 ^ j % 256)
def keyI (i : Int) : ByteArray := ⟨#[105, dig (i + 9223372036854775808).toNat 7, dig (i + 9223372036854775808).toNat 6, dig (i + 9223372036854775808).toNat 5, dig (i + 9223372036854775808).toNat 4, dig (i + 9223372036854775808).toNat 3, dig (i + 9223372036854775808).toNat 2, dig (i + 9223372036854775808).toNat 1, dig (i + 9223372036854775808).toNat 0]⟩
theorem xor_top {a : Nat} (h : a < 18446744073709551616) : a ^^^ 9223372036854775808 = (a + 9223372036854775808) % 18446744073709551616 := by
  have h1 : (a ^^^ 9223372036854775808) / 2 ^ 63 = (a / 2 ^ 63) ^^^ (9223372036854775808 / 2 ^ 63) := Nat.xor_div_two_pow
  have h2 : (a ^^^ 9223372036854775808) % 2 ^ 63 = (a % 2 ^ 63) ^^^ (9223372036854775808 % 2 ^ 63) := Nat.xor_mod_two_pow
  have h3 : a / 2 ^ 63 = 0 ∨ a / 2 ^ 63 = 1 := by omega
  have e1 : (9223372036854775808 / 2 ^ 63 : Nat) = 1 := by decide
  have e2 : (9223372036854775808 % 2 ^ 63 : Nat) = 0 := by decide
  rw [e1] at h1
  rw [e2, Nat.xor_zero] at h2
  rcases h3 with h3 | h3
  · rw [h3] at h1
    have : (0 ^^^ 1 : Nat) = 1 := by decide
    omega
  · rw [h3] at h1
    have : (1 ^^^ 1 : Nat) = 0 := by decide
    omega
theorem dig_u8 {x : Nat} (j : Nat) (d : Int) (hd : d = ((256 ^ j : Nat) : Int)) : IntKind.u8.wrap ((x : Int).fdiv d) = ((x / 256 ^ j % 256 : Nat) : Int) := by
  have hw : ∀ n : Int, IntKind.u8.wrap n = n % 256 := fun n => by unfold IntKind.wrap; simp [IntKind.signed, IntKind.bits]
  rw [hw, hd, Int.fdiv_eq_ediv_of_nonneg _ (Int.natCast_nonneg _), Int.natCast_emod, Int.natCast_ediv]
  rfl
theorem key_top {i : Int} (hl : -9223372036854775808 ≤ i) (hh : i < 9223372036854775808) : IntKind.u64.wrap ↑((IntKind.u64.wrap i % 18446744073709551616).toNat ^^^ 9223372036854775808) = ((i + 9223372036854775808).toNat : Int) := by
  have hw : IntKind.u64.wrap i = i % 18446744073709551616 := by unfold IntKind.wrap; simp [IntKind.signed, IntKind.bits]
  rw [hw, xor_top (by omega), wrap_u64 (by omega) (by omega)]
  omega
theorem dig_u8' {x : Nat} : IntKind.u8.wrap (x : Int) = ((x / 256 ^ 0 % 256 : Nat) : Int) := by
  unfold IntKind.wrap; simp [IntKind.signed, IntKind.bits]
theorem dig_ok {x : Nat} (j : Nat) : (0 ≤ ((x / 256 ^ j % 256 : Nat) : Int) ∧ ((x / 256 ^ j % 256 : Nat) : Int) < 256) = True := eq_true ⟨Int.natCast_nonneg _, by have := Nat.mod_lt (x / 256 ^ j) (show 256 > 0 by decide); omega⟩
theorem T_key1 (v : Val) (h : v.k = 1) (hl : -9223372036854775808 ≤ v.i) (hh : v.i < 9223372036854775808) : T Tryz.prog 114 [v.av] (.str (keyI v.i)) := by
  refine T.intro (TS.body mix Tryz.func114 (by kernel_rfl) rfl (by kernel_rfl) (by simp) ?_)
  simp [h]
  refine vc_rnds 8 ?_
  simp
  refine rnds.next ?_
  simp
  refine rnds.next ?_
  simp
  refine rnds.next ?_
  simp
  refine rnds.next ?_
  simp
  refine rnds.next ?_
  simp
  refine rnds.next ?_
  simp
  refine rnds.next ?_
  simp
  refine rnds.next ?_
  simp
  simp only [isByte_int, avByte_int, key_top hl hh, dig_u8 7 72057594037927936 (by decide), dig_u8 6 281474976710656 (by decide), dig_u8 5 1099511627776 (by decide), dig_u8 4 4294967296 (by decide), dig_u8 3 16777216 (by decide), dig_u8 2 65536 (by decide), dig_u8 1 256 (by decide), dig_u8', dig_ok, Int.toNat_natCast, and_true]
  exact ⟨by decide, rfl⟩

def keyV (v : Val) : ByteArray := if v.k = 0 then ⟨#[110]⟩ else if v.k = 1 then keyI v.i else if v.k = 2 then ⟨#[116]⟩ ++ v.s else ⟨#[]⟩
theorem T_keyW (v : Val) (hl : -9223372036854775808 ≤ v.i) (hh : v.i < 9223372036854775808) (hs : v.s.size ≤ 1000000) : T Tryz.prog 114 [v.av] (.str (keyV v)) := by
  by_cases h1 : v.k = 1
  · have e : keyV v = keyI v.i := by simp [keyV, h1]
    rw [e]; exact T_key1 v h1 hl hh
  refine T.intro (TS.body mix Tryz.func114 (by kernel_rfl) rfl (by kernel_rfl) (by simp) ?_)
  simp [h1]
  simp only [condK_iff, keyV]
  by_cases h0 : v.k = 0
  · simp [h0]
  · by_cases h2 : v.k = 2
    · have : ByteArray.size ⟨#[116]⟩ = 1 := rfl
      simp [h2]; omega
    · simp [h0, h1, h2]

end Go.Proofs.YtjplcdeaedflpaaGreatDoor.PL
namespace Go.Proofs.YtjplcdeaedflpaaGreatDoor.PL
open Go.Proofs
set_option linter.unusedVariables false
set_option linter.unusedSimpArgs false
def hi64 (x : Int) : Int := x / 18446744073709551616 % 18446744073709551616
def lo64 (x : Int) : Int := x % 18446744073709551616
/-- a number of 128 bits -/
def wide (x : Int) : AV := .agg [.int .u64 (hi64 x), .int .u64 (lo64 x)]
def isI (n : Int) : Prop := -9223372036854775808 ≤ n ∧ n < 9223372036854775808
instance (n : Int) : Decidable (isI n) := by unfold isI; infer_instance
theorem wrapU (n : Int) : IntKind.wrap .u64 n = n % 18446744073709551616 := by unfold IntKind.wrap; simp [IntKind.signed, IntKind.bits]
theorem and32 (x : Nat) (h : x < 18446744073709551616) : IntKind.u64.wrap (((((x : Nat) : Int) % 18446744073709551616).toNat &&& 4294967295 : Nat) : Int) = ((x % 4294967296 : Nat) : Int) := by
  have e : ((x : Int) % 18446744073709551616).toNat = x := by omega
  have e2 : x &&& 4294967295 = x % 4294967296 := Nat.and_two_pow_sub_one_eq_mod x 32
  rw [e, e2, wrapU]
  omega
theorem shr32 (x : Nat) : ((x : Nat) : Int).fdiv 4294967296 = ((x / 4294967296 : Nat) : Int) := by
  rw [Int.fdiv_eq_ediv_of_nonneg _ (by decide)]; omega
theorem mulU (a b : Nat) (h : a * b < 18446744073709551616) : IntKind.u64.wrap ((a : Int) * (b : Int)) = ((a * b : Nat) : Int) := by
  rw [wrapU, ← Int.natCast_mul]; omega
theorem addU (a b : Nat) (h : a + b < 18446744073709551616) : IntKind.u64.wrap ((a : Int) + (b : Int)) = ((a + b : Nat) : Int) := by
  rw [wrapU, ← Int.natCast_add]; omega
theorem small_mul {a b : Nat} (ha : a < 4294967296) (hb : b < 4294967296) : a * b ≤ 18446744065119617025 := Nat.mul_le_mul (Nat.le_of_lt_succ ha) (Nat.le_of_lt_succ hb)
theorem T_mul64 (x y : Nat) (hx : x < 18446744073709551616) (hy : y < 18446744073709551616) : T Tryz.prog 125 [.int .u64 x, .int .u64 y] (.tup [.int .u64 (x * y / 18446744073709551616 : Nat), .int .u64 (x * y % 18446744073709551616 : Nat)]) := by
  refine T.intro (TS.body mix Tryz.func125 (by kernel_rfl) rfl (by kernel_rfl) (by simp) ?_)
  have a0 := Nat.mod_lt x (show 4294967296 > 0 by decide)
  have a1 : x / 4294967296 < 4294967296 := by omega
  have b0 := Nat.mod_lt y (show 4294967296 > 0 by decide)
  have b1 : y / 4294967296 < 4294967296 := by omega
  have m00 := small_mul a0 b0
  have m10 := small_mul a1 b0
  have m01 := small_mul a0 b1
  have m11 := small_mul a1 b1
  have exy : x * y = (x / 4294967296) * (y / 4294967296) * 18446744073709551616 + (x / 4294967296) * (y % 4294967296) * 4294967296 + (x % 4294967296) * (y / 4294967296) * 4294967296 + (x % 4294967296) * (y % 4294967296) := by
    conv => lhs; rw [← Nat.div_add_mod x 4294967296, ← Nat.div_add_mod y 4294967296]
    generalize x / 4294967296 = p
    generalize x % 4294967296 = q
    generalize y / 4294967296 = r
    generalize y % 4294967296 = s
    rw [Nat.add_mul, Nat.mul_add, Nat.mul_add]
    have e1 : 4294967296 * p * (4294967296 * r) = p * r * 18446744073709551616 := by
      rw [Nat.mul_mul_mul_comm, Nat.mul_comm]
    have e2 : 4294967296 * p * s = p * s * 4294967296 := by rw [Nat.mul_assoc, Nat.mul_comm]
    have e3 : q * (4294967296 * r) = q * r * 4294967296 := by rw [Nat.mul_left_comm, Nat.mul_comm]
    rw [e1, e2, e3]
    omega
  simp
  simp only [and32 x hx, and32 y hy, shr32, mulU _ _ (show x % 4294967296 * (y % 4294967296) < 18446744073709551616 by omega), mulU _ _ (show x / 4294967296 * (y % 4294967296) < 18446744073709551616 by omega),
    mulU _ _ (show x % 4294967296 * (y / 4294967296) < 18446744073709551616 by omega), mulU _ _ (show x / 4294967296 * (y / 4294967296) < 18446744073709551616 by omega)]
  generalize hp : x / 4294967296 * (y / 4294967296) = p11 at *
  generalize hq : x / 4294967296 * (y % 4294967296) = p10 at *
  generalize hr : x % 4294967296 * (y / 4294967296) = p01 at *
  generalize hs : x % 4294967296 * (y % 4294967296) = p00 at *
  simp only [addU p10 (p00 / 4294967296) (by omega), shr32, and32 (p10 + p00 / 4294967296) (by omega), addU ((p10 + p00 / 4294967296) % 4294967296) p01 (by omega)]
  rw [addU p11 ((p10 + p00 / 4294967296) / 4294967296) (by omega), addU (p11 + (p10 + p00 / 4294967296) / 4294967296) (((p10 + p00 / 4294967296) % 4294967296 + p01) / 4294967296) (by omega), wrapU, ← Int.natCast_mul, exy]
  omega
end Go.Proofs.YtjplcdeaedflpaaGreatDoor.PL
namespace Go.Proofs.YtjplcdeaedflpaaGreatDoor.PL
open Go.Proofs
set_option linter.unusedVariables false
set_option linter.unusedSimpArgs false
def Grow0 (sz : Nat) (J : List HO) (x : AV) (xs : List AV) : Prop := (xs = [] ∧ x = .sl .nil []) ∨ ∃ t, x = .sl (.tok (t + 1)) xs ∧ J[t]? = some (.spare xs.length sz)
theorem Grow0.first {sz : Nat} {J : List HO} {y : AV} : Grow0 sz (J ++ [.spare 1 sz]) (.sl (.tok (J.length + 1)) [y]) [y] := .inr ⟨J.length, rfl, by simp⟩
theorem Grow0.more {sz t n : Nat} {J : List HO} {xs : List AV} {y : AV} (ht : J[t]? = some (.spare xs.length sz)) (hn : n = xs.length + 1) : Grow0 sz (J.set t (.spare n sz)) (.sl (.tok (t + 1)) (xs ++ [y])) (xs ++ [y]) :=
  .inr ⟨t, rfl, by rw [List.getElem?_set_self (List.getElem?_eq_some_iff.1 ht).1]; simp [hn]⟩
theorem Grow0.own {sz : Nat} {J : List HO} {x : AV} {xs : List AV} (h : Grow0 sz J x xs) : ∃ own, x = .sl own xs := by
  rcases h with ⟨rfl, h⟩ | ⟨t, h, _⟩
  · exact ⟨_, h⟩
  · exact ⟨_, h⟩
theorem Grow0.app {sz : Nat} {J L : List HO} {x : AV} {xs : List AV} (h : Grow0 sz J x xs) : Grow0 sz (J ++ L) x xs := by
  rcases h with h | ⟨t, h, ht⟩
  · exact .inl h
  · exact .inr ⟨t, h, by rw [List.getElem?_append_left (List.getElem?_eq_some_iff.1 ht).1]; exact ht⟩
/-- the same, in all of the call's memory -/
def Grow1 (sz : Nat) (H : List HO) (x : AV) (xs : List AV) : Prop := (xs = [] ∧ x = .sl .nil []) ∨ ∃ t, x = .sl (.tok t) xs ∧ H[t]? = some (.spare xs.length sz)
theorem Grow1.nil {sz : Nat} {H : List HO} : Grow1 sz H (.sl .nil []) [] := .inl ⟨rfl, rfl⟩
theorem Grow1.first {α : Type} {f : α → AV} {l : List α} {a : α} {sz : Nat} {H : List HO} {k : Nat} (hl : l = []) (hk : k = H.length) : Grow1 sz (H ++ [.spare 1 sz]) (.sl (.tok k) [f a]) (avs f (l ++ [a])) := by
  subst hl; subst hk; exact .inr ⟨H.length, rfl, by simp⟩
theorem Grow1.more {α : Type} {f : α → AV} {l : List α} {a : α} {sz t n : Nat} {H : List HO} (ht : H[t]? = some (.spare (avs f l).length sz)) (hn : n = l.length + 1) : Grow1 sz (H.set t (.spare n sz)) (.sl (.tok t) (avs f (l ++ [a]))) (avs f (l ++ [a])) :=
  .inr ⟨t, rfl, by rw [List.getElem?_set_self (List.getElem?_eq_some_iff.1 ht).1]; simp [hn]⟩
theorem Grow1.own {sz : Nat} {H : List HO} {x : AV} {xs : List AV} (h : Grow1 sz H x xs) : ∃ own, x = .sl own xs := by
  rcases h with ⟨rfl, h⟩ | ⟨t, h, _⟩
  · exact ⟨_, h⟩
  · exact ⟨_, h⟩
theorem Grow1.app {sz : Nat} {H L : List HO} {x : AV} {xs : List AV} (h : Grow1 sz H x xs) : Grow1 sz (H ++ L) x xs := by
  rcases h with h | ⟨t, h, ht⟩
  · exact .inl h
  · exact .inr ⟨t, h, by rw [List.getElem?_append_left (List.getElem?_eq_some_iff.1 ht).1]; exact ht⟩
/-- the same, in the memory behind A -/
def GrowB (sz : Nat) (A J : List HO) (x : AV) (xs : List AV) : Prop := (xs = [] ∧ x = .sl .nil []) ∨ ∃ t, x = .sl (.tok (A.length + t)) xs ∧ J[t]? = some (.spare xs.length sz)
theorem GrowB.nil {sz : Nat} {A J : List HO} : GrowB sz A J (.sl .nil []) [] := .inl ⟨rfl, rfl⟩
theorem GrowB.first {α : Type} {f : α → AV} {l : List α} {a : α} {sz : Nat} {A J : List HO} {k : Nat} (hl : l = []) (hk : k = A.length + J.length) : GrowB sz A (J ++ [.spare 1 sz]) (.sl (.tok k) [f a]) (avs f (l ++ [a])) := by
  subst hl; subst hk; exact .inr ⟨J.length, rfl, by simp⟩
theorem GrowB.more {α : Type} {f : α → AV} {l : List α} {a : α} {sz t n : Nat} {A J : List HO} (ht : J[t]? = some (.spare (avs f l).length sz)) (hn : n = l.length + 1) : GrowB sz A (J.set t (.spare n sz)) (.sl (.tok (A.length + t)) (avs f (l ++ [a]))) (avs f (l ++ [a])) :=
  .inr ⟨t, rfl, by rw [List.getElem?_set_self (List.getElem?_eq_some_iff.1 ht).1]; simp [hn]⟩
theorem GrowB.own {sz : Nat} {A J : List HO} {x : AV} {xs : List AV} (h : GrowB sz A J x xs) : ∃ own, x = .sl own xs := by
  rcases h with ⟨rfl, h⟩ | ⟨t, h, _⟩
  · exact ⟨_, h⟩
  · exact ⟨_, h⟩
theorem GrowB.app {sz : Nat} {A J L : List HO} {x : AV} {xs : List AV} (h : GrowB sz A J x xs) : GrowB sz A (J ++ L) x xs := by
  rcases h with h | ⟨t, h, ht⟩
  · exact .inl h
  · exact .inr ⟨t, h, by rw [List.getElem?_append_left (List.getElem?_eq_some_iff.1 ht).1]; exact ht⟩
/-- the same, behind k things -/
def GrowK (k sz : Nat) (J : List HO) (x : AV) (xs : List AV) : Prop := (xs = [] ∧ x = .sl .nil []) ∨ ∃ t, x = .sl (.tok (t + k)) xs ∧ J[t]? = some (.spare xs.length sz)
theorem GrowK.nil {k sz : Nat} {J : List HO} : GrowK k sz J (.sl .nil []) [] := .inl ⟨rfl, rfl⟩
theorem GrowK.first {α : Type} {f : α → AV} {l : List α} {a : α} {q sz : Nat} {J : List HO} {k : Nat} (hl : l = []) (hk : k = J.length + q) : GrowK q sz (J ++ [.spare 1 sz]) (.sl (.tok k) [f a]) (avs f (l ++ [a])) := by
  subst hl; subst hk; exact .inr ⟨J.length, rfl, by simp⟩
theorem GrowK.more {α : Type} {f : α → AV} {l : List α} {a : α} {q sz t n : Nat} {J : List HO} (ht : J[t]? = some (.spare (avs f l).length sz)) (hn : n = l.length + 1) : GrowK q sz (J.set t (.spare n sz)) (.sl (.tok (t + q)) (avs f (l ++ [a]))) (avs f (l ++ [a])) :=
  .inr ⟨t, rfl, by rw [List.getElem?_set_self (List.getElem?_eq_some_iff.1 ht).1]; simp [hn]⟩
theorem GrowK.own {k sz : Nat} {J : List HO} {x : AV} {xs : List AV} (h : GrowK k sz J x xs) : ∃ own, x = .sl own xs := by
  rcases h with ⟨rfl, h⟩ | ⟨t, h, _⟩
  · exact ⟨_, h⟩
  · exact ⟨_, h⟩
theorem GrowK.app {k sz : Nat} {J L : List HO} {x : AV} {xs : List AV} (h : GrowK k sz J x xs) : GrowK k sz (J ++ L) x xs := by
  rcases h with h | ⟨t, h, ht⟩
  · exact .inl h
  · exact .inr ⟨t, h, by rw [List.getElem?_append_left (List.getElem?_eq_some_iff.1 ht).1]; exact ht⟩
end Go.Proofs.YtjplcdeaedflpaaGreatDoor.PL
namespace Go.Proofs.YtjplcdeaedflpaaGreatDoor.PL
open Go.Proofs
set_option linter.unusedVariables false
set_option linter.unusedSimpArgs false
/-- slices of plain things that nobody looks into -/
structure PSl where
  xs : List AV
  pl : AV.pls xs = true
attribute [simp] PSl.pl
theorem T_sameList21 (l m : List Int) (hl : l.length < 4611686018427387904) : T Tryz.prog 41 [slA (AV.int .i64) l, slA (AV.int .i64) m] (.bool (decide (l = m))) := by
  refine T.intro (TS.body mix Tryz.func41 (by kernel_rfl) rfl (by kernel_rfl) (by simp) ?_)
  simp
  refine condK_of (fun h => ?_) (fun h => ?_)
  · simp at h
    simp
    rintro rfl
    exact h rfl
  simp at h
  have hlm : l.length = m.length := by omega
  simp
  refine vc_loop (fun i : Nat => l.length - i) (fun i e H => e 0 = slA (AV.int .i64) l ∧ e 1 = slA (AV.int .i64) m ∧ e 5 = .int .i64 i ∧ i ≤ l.length ∧ l.take i = m.take i) 0 ?_ ?_
  · simp
  rintro i e H ⟨h0, h1, h5, hi, ht⟩
  by_cases hlt : i < l.length
  · have hlt' : i < m.length := by omega
    have ew := wrap_next hlt (by omega)
    simp [h0, h1, h5, hlt, hlt']
    refine condK_of (fun q => ?_) (fun q => ?_)
    · simp at q
      simp
      rintro rfl
      exact q rfl
    · simp at q
      simp [h0, h1, h5, hlt, hlt']
      refine ⟨i + 1, by omega, ew, by omega, ?_⟩
      rw [take_next hlt, take_next hlt', ht, q]
  · have : i = l.length := by omega
    subst this
    simp [h0, h1, h5]
    rw [List.take_length, hlm, List.take_length] at ht
    exact ht
/-! what comes in -/
def i64 (n : Int) : Prop := -9223372036854775808 ≤ n ∧ n < 9223372036854775808
theorem reach_lt' : reachBytes ≤ 140737488355328 := by decide
theorem ints_in {cs : List AV} (h : Sh Tryz.prog 22 cs) : ∃ l : List Int, cs = [slA (AV.int .i64) l] ∧ (∀ x, x ∈ l → i64 x) ∧ l.length < 4611686018427387904 := by
  obtain ⟨ys, rfl, hy, b⟩ := h.sl_of un_22 ag_3
  obtain ⟨l, e, el, hl⟩ := list_in (f := AV.int .i64) (g := mkAV false) (Q := i64) (fun y hy' => by
    obtain ⟨n, rfl, hn⟩ := (hy y hy').int_of un_3
    exact ⟨n, rfl, i64_wf hn⟩)
  have hb : 1 ≤ Tryz.prog.bytesOf 3 := by decide +kernel
  have hr := reach_lt'
  have := Nat.mul_le_mul_left ys.length hb
  exact ⟨l, by rw [e]; rfl, hl, by omega⟩
/-- the first one for which it is so -/
theorem S_indexFunc (H : List HO) (f : FuncId) (caps : List AV) (l : List Int) (q : Int → Bool) (hl : l.length < 4611686018427387904) (hq : ∀ x, x ∈ l → TS Tryz.prog f (.int .i64 x :: caps) H (pt (.bool (q x)) H)) : TS Tryz.prog 112 [slA (AV.int .i64) l, .fn (.func f) [] caps] H (pt (.int .i64 (match l.findIdx? q with | some i => (i : Int) | none => -1)) H) := by
  refine TS.body mix Tryz.func112 (by kernel_rfl) rfl (by kernel_rfl) (by simp) ?_
  simp
  refine vc_loop (fun i : Nat => l.length - i) (fun i e H' => e 0 = slA (AV.int .i64) l ∧ e 1 = .fn (.func f) [] caps ∧ e 7 = .int .i64 l.length ∧ e 8 = .int .i64 i ∧ i ≤ l.length ∧ (∀ j (h : j < l.length), j < i → q l[j] = false) ∧ H' = H) 0 ?_ ?_
  · simp
  rintro i e H' ⟨h0, h1, h7, h8, hi, hno, rfl⟩
  by_cases hlt : i < l.length
  · have ew := wrap_next hlt (by omega)
    have hqi := hq l[i] (List.getElem_mem hlt)
    simp [h0, h1, h7, h8, hlt]
    refine TS.pt hqi ?_
    simp [h0, h1, h7, h8, hlt]
    refine condK_of (fun c => ?_) (fun c => ?_)
    · have : l.findIdx? q = some i := by
        rw [List.findIdx?_eq_some_iff_getElem]
        exact ⟨hlt, c, fun j hj => by rw [hno j (by omega) hj]; simp⟩
      rw [this]
      simp
    · simp [h0, h1, h7, h8, hlt]
      refine ⟨i + 1, by omega, ew, by omega, fun j h hj => ?_⟩
      rcases Nat.lt_or_ge j i with h2 | h2
      · exact hno j h h2
      · have : j = i := by omega
        subst this; exact c
  · have : i = l.length := by omega
    subst this
    have : l.findIdx? q = none := by
      rw [List.findIdx?_eq_none_iff]
      intro x hx
      obtain ⟨j, hj, rfl⟩ := List.getElem_of_mem hx
      exact hno j hj hj
    rw [this]
    simp [h0, h1, h7, h8]
theorem S_containsFunc (H : List HO) (f : FuncId) (caps : List AV) (l : List Int) (q : Int → Bool) (hl : l.length < 4611686018427387904) (hq : ∀ x, x ∈ l → TS Tryz.prog f (.int .i64 x :: caps) H (pt (.bool (q x)) H)) : TS Tryz.prog 159 [slA (AV.int .i64) l, .fn (.func f) [] caps] H (pt (.bool (l.any q)) H) := by
  refine TS.body mix Tryz.func159 (by kernel_rfl) rfl (by kernel_rfl) (by simp) ?_
  simp
  refine TS.pt (S_indexFunc H f caps l q hl hq) ?_
  have : decide (0 ≤ (match l.findIdx? q with | some i => (i : Int) | none => -1)) = l.any q := by
    cases h : l.findIdx? q with
    | none =>
      rw [List.findIdx?_eq_none_iff] at h
      symm
      simp
      exact h
    | some i =>
      have := List.findIdx?_eq_some_iff_getElem.1 h
      obtain ⟨hi, hq', _⟩ := this
      symm
      simp
      exact ⟨l[i], List.getElem_mem hi, hq'⟩
  rw [← this]
  simp
end Go.Proofs.YtjplcdeaedflpaaGreatDoor.PL
namespace Go.Proofs.YtjplcdeaedflpaaGreatDoor.PL
open Go.Proofs
set_option linter.unusedVariables false
set_option linter.unusedSimpArgs false
theorem T_mulS (x y : Nat) (h : x * y < 18446744073709551616) (hx : x < 18446744073709551616) (hy : y < 18446744073709551616) : T Tryz.prog 108 [.int .u64 x, .int .u64 y] (.tup [.int .u64 0, .int .u64 (x * y : Nat)]) := by
  have k := T_mul64 x y hx hy
  rw [Nat.div_eq_of_lt h, Nat.mod_eq_of_lt h] at k
  refine T.intro (TS.body mix Tryz.func108 (by kernel_rfl) rfl (by kernel_rfl) (by simp) ?_)
  simp
  refine TS.callW k (Dws.self (by simp)) ?_
  simp
abbrev bools' (l : List Bool) : List AV := avs AV.bool l
theorem repB_zero (n : Nat) : repeatA [AV.bool false] n = avs AV.bool (List.replicate n false) := by
  induction n with
  | zero => rfl
  | succ n ih => rw [repeatA, ih, List.replicate_succ]; rfl
set_option maxRecDepth 4000 in
theorem S_repeatB (H : List HO) (b : Bool) (n : Nat) (hn : n ≤ 1000000) : TS Tryz.prog 126 [.sl .exact [AV.bool b], .int .i64 n] H (pt (.mv H.length n 1 0 n) (H ++ [.row n 1 (avs AV.bool (List.replicate n b))])) := by
  have k := T_mulS 1 n (by omega) (by omega) (by omega)
  have h0 : ¬ (n : Int) < 0 := by omega
  have hw : IntKind.u64.wrap (n : Int) = n := by unfold IntKind.wrap; simp [IntKind.signed, IntKind.bits]; omega
  have h1 : ¬ (9223372036854775807 : Int) < n := by omega
  refine TS.body mix Tryz.func126 (by kernel_rfl) rfl (by kernel_rfl) (by simp) ?_
  simp [h0, hw]
  refine TS.callW k (Dws.self (by simp)) ?_
  have hi : IntKind.i64.wrap (n : Int) = n := wrap_i64 (by omega) (by omega)
  simp [h0, hw, h1, hi]
  refine ⟨by omega, ?_⟩
  refine vc_loop (fun j : Nat => n - j) (fun j e H' => e 7 = .mv H.length n 1 0 n ∧ e 8 = .int .i64 j ∧ j ≤ n ∧ (0 < n → 0 < j) ∧ H' = H ++ [.row n 1 (avs AV.bool (List.replicate j b ++ List.replicate (n - j) false))]) (min 1 n) ?_ ?_
  · simp
    refine ⟨by omega, by omega, ?_⟩
    rw [repB_zero]
    rcases Nat.eq_zero_or_pos n with rfl | h
    · simp
    · obtain ⟨m, rfl⟩ : ∃ m, n = m + 1 := ⟨n - 1, by omega⟩
      have e1 : Nat.min 1 (m + 1) = 1 := by show min 1 (m + 1) = 1; omega
      have e2 : min 1 (m + 1) = 1 := by omega
      rw [e1, e2]
      simp [List.replicate_succ]
  rintro j e H' ⟨h7, h8, hj, hp, rfl⟩
  by_cases hlt : j < n
  · simp [h7, h8, hlt]
    have e0 : j.min (n - j) = min j (n - j) := rfl
    refine ⟨by omega, j + min j (n - j), by omega, ?_, by omega, by omega, ?_⟩
    · rw [e0, wrap_i64 (by omega) (by omega)]; omega
    · have e1 : List.drop (j + min j (n - j)) (List.replicate j b ++ List.replicate (n - j) false) = List.replicate (n - (j + min j (n - j))) false := by
        rw [List.drop_append, List.drop_of_length_le (by simp), List.nil_append, List.length_replicate, List.drop_replicate]
        congr 1
        omega
      rw [e1]
  · have : j = n := by omega
    subst this
    simp [h7, h8]
theorem repI_zero (n : Nat) : repeatA [(AV.int .i64) 0] n = avs (AV.int .i64) (List.replicate n 0) := by
  induction n with
  | zero => rfl
  | succ n ih => rw [repeatA, ih, List.replicate_succ]; rfl
set_option maxRecDepth 4000 in
theorem S_repeatI (H : List HO) (b : Int) (n : Nat) (hn : n ≤ 1000000) : TS Tryz.prog 77 [.sl .exact [(AV.int .i64) b], .int .i64 n] H (pt (.mv H.length n 1 0 n) (H ++ [.row n 1 (avs (AV.int .i64) (List.replicate n b))])) := by
  have k := T_mulS 1 n (by omega) (by omega) (by omega)
  have h0 : ¬ (n : Int) < 0 := by omega
  have hw : IntKind.u64.wrap (n : Int) = n := by unfold IntKind.wrap; simp [IntKind.signed, IntKind.bits]; omega
  have h1 : ¬ (9223372036854775807 : Int) < n := by omega
  refine TS.body mix Tryz.func77 (by kernel_rfl) rfl (by kernel_rfl) (by simp) ?_
  simp [h0, hw]
  refine TS.callW k (Dws.self (by simp)) ?_
  have hi : IntKind.i64.wrap (n : Int) = n := wrap_i64 (by omega) (by omega)
  simp [h0, hw, h1, hi]
  refine ⟨by omega, ?_⟩
  refine vc_loop (fun j : Nat => n - j) (fun j e H' => e 7 = .mv H.length n 1 0 n ∧ e 8 = .int .i64 j ∧ j ≤ n ∧ (0 < n → 0 < j) ∧ H' = H ++ [.row n 1 (avs (AV.int .i64) (List.replicate j b ++ List.replicate (n - j) 0))]) (min 1 n) ?_ ?_
  · simp
    refine ⟨by omega, by omega, ?_⟩
    rw [repI_zero]
    rcases Nat.eq_zero_or_pos n with rfl | h
    · simp
    · obtain ⟨m, rfl⟩ : ∃ m, n = m + 1 := ⟨n - 1, by omega⟩
      have e1 : Nat.min 1 (m + 1) = 1 := by show min 1 (m + 1) = 1; omega
      have e2 : min 1 (m + 1) = 1 := by omega
      rw [e1, e2]
      simp [List.replicate_succ]
  rintro j e H' ⟨h7, h8, hj, hp, rfl⟩
  by_cases hlt : j < n
  · simp [h7, h8, hlt]
    have e0 : j.min (n - j) = min j (n - j) := rfl
    refine ⟨by omega, j + min j (n - j), by omega, ?_, by omega, by omega, ?_⟩
    · rw [e0, wrap_i64 (by omega) (by omega)]; omega
    · have e1 : List.drop (j + min j (n - j)) (List.replicate j b ++ List.replicate (n - j) 0) = List.replicate (n - (j + min j (n - j))) 0 := by
        rw [List.drop_append, List.drop_of_length_le (by simp), List.nil_append, List.length_replicate, List.drop_replicate]
        congr 1
        omega
      rw [e1]
  · have : j = n := by omega
    subst this
    simp [h7, h8]
/-- a list grown from nil on, by lists that may be empty; in all of the call's memory -/
def GrowM (sz : Nat) (H : List HO) (x : AV) (xs : List AV) : Prop := (xs = [] ∧ (x = .sl .nil [] ∨ x = .sl .exact [])) ∨ ∃ t, x = .sl (.tok t) xs ∧ H[t]? = some (.spare xs.length sz)
theorem GrowM.nil {sz : Nat} {H : List HO} : GrowM sz H (.sl .nil []) [] := .inl ⟨rfl, .inl rfl⟩
theorem GrowM.app0 {α : Type} {f : α → AV} {l m : List α} {sz n k : Nat} {H : List HO} (hl : l = []) (hn : n = m.length) (hk : k = H.length) : GrowM sz (H ++ appJ 0 n sz) (.sl (ownAt n k) (avs f m)) (avs f (l ++ m)) := by
  subst hl hn hk
  rcases Nat.eq_zero_or_pos m.length with h | h
  · have : m = [] := List.eq_nil_of_length_eq_zero h
    subst this
    exact .inl ⟨rfl, .inr rfl⟩
  · rw [ownAt_pos h, appJ_pos h]
    exact .inr ⟨H.length, rfl, by simp⟩
theorem GrowM.appT {α : Type} {f : α → AV} {l m : List α} {sz t n : Nat} {H : List HO} {o : HO} (ht : H[t]? = some o) (hn : n = l.length + m.length) : GrowM sz (H.set t (.spare n sz)) (.sl (.tok t) (avs f (l ++ m))) (avs f (l ++ m)) :=
  .inr ⟨t, rfl, by rw [List.getElem?_set_self (List.getElem?_eq_some_iff.1 ht).1]; simp [hn]⟩
theorem GrowM.app {sz : Nat} {H L : List HO} {x : AV} {xs : List AV} (h : GrowM sz H x xs) : GrowM sz (H ++ L) x xs := by
  rcases h with h | ⟨t, h, ht⟩
  · exact .inl h
  · exact .inr ⟨t, h, getElem?_app ht⟩
theorem GrowM.frz {α : Type} {f : α → AV} [Selfs f] {sz : Nat} {H H' : List HO} {x : AV} {l : List α} (h : GrowM sz H x (avs f l)) : Frz H' x (slA f l) := by
  rcases h with ⟨ge, hg⟩ | ⟨t, rfl, ht⟩
  · rw [avs_eq_nil] at ge
    subst ge
    rcases hg with rfl | rfl <;> exact Frz.slN (f := f) (l := [])
  · exact Frz.slN
end Go.Proofs.YtjplcdeaedflpaaGreatDoor.PL
