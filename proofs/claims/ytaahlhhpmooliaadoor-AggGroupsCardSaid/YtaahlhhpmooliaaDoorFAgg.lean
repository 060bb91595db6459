/- What the functions of aggregates tell. -/
import Derived.Test.YtaahlhhpmooliaaDoorFSpan
import Derived.Test.YtaahlhhpmooliaaDoorFArith2
import Derived.Test.YtaahlhhpmooliaaDoorFGrow
namespace Go.Proofs.YtaahlhhpmooliaaDoor.PL
open Go.Proofs
set_option linter.unusedVariables false
set_option linter.unusedSimpArgs false
structure Acc where
  op : Int
  n : Int
  m : Int
  x : Int
  k : Int
  lo : Val
  hi : Val
  bad : Bool
abbrev Acc.cs (a : Acc) : List AV := [.int .i64 a.op, .int .i64 a.n, .int .i64 a.m, .int .u64 (hi64 a.x), .int .u64 (lo64 a.x), .int .i64 a.k, .int .i64 a.lo.k, .int .i64 a.lo.i, .str a.lo.s, .int .i64 a.hi.k, .int .i64 a.hi.i, .str a.hi.s, .bool a.bad]
abbrev Acc.av (a : Acc) : AV := .agg a.cs
def startA (op : Int) : Acc := ⟨op, 0, 0, 0, 0, zv, zv, false⟩
def boundA (a : Acc) (l h : Val) : Acc := { a with lo := if a.m = 0 ∨ order l a.lo < 0 then l else a.lo, hi := if a.m = 0 ∨ 0 < order h a.hi then h else a.hi, m := IntKind.i64.wrap (a.m + 1) }
def feedA (a : Acc) (v : Val) : Acc :=
  if v.k = 0 then { a with n := IntKind.i64.wrap (a.n + 1) }
  else if v.k = 1 then boundA { a with n := IntKind.i64.wrap (a.n + 1), x := a.x + v.i, k := IntKind.i64.wrap (a.k + 1) } v v
  else boundA { a with n := IntKind.i64.wrap (a.n + 1), bad := true } v v
def feedL (a : Acc) (l : List Val) : Acc := l.foldl feedA a
def iv (n : Int) : Val := ⟨1, n, ByteArray.empty⟩
def totA (a : Acc) : Val × Int := if a.bad = true then (zv, 3) else if ¬ isI a.x then (zv, 5) else if a.m = 0 then (zv, 0) else (iv a.x, 0)
def resA (a : Acc) : Val × Int :=
  if a.op = 17 then (iv a.n, 0) else if a.op = 18 then (iv a.m, 0) else if a.op = 19 then totA a else if a.op = 20 then (a.lo, 0) else if a.op = 21 then (a.hi, 0) else (zv, 3)
def mergeA (a b : Acc) : Acc :=
  if a.op ≠ b.op then a else
    let c := if 0 < b.m then boundA a b.lo b.hi else a
    { c with n := IntKind.i64.wrap (a.n + b.n), m := IntKind.i64.wrap (a.m + b.m), x := a.x + b.x, k := IntKind.i64.wrap (a.k + b.k), bad := a.bad || b.bad }
theorem T_start (op : Int) : T Tryd.prog 55 [.int .i64 op] (startA op).av := by
  refine T.intro (TS.body mix Tryd.func55 (by kernel_rfl) rfl (by kernel_rfl) (by simp) ?_)
  simp
  simp [startA, zv, hi64, lo64]
theorem T_bound (a : Acc) (u w : Val) : T Tryd.prog 70 [a.av, u.av, w.av] (boundA a u w).av := by
  refine T.intro (TS.body mix Tryd.func70 (by kernel_rfl) rfl (by kernel_rfl) (by simp) ?_)
  have e1 : (boundA a u w).lo = if a.m = 0 ∨ order u a.lo < 0 then u else a.lo := rfl
  have e2 : (boundA a u w).hi = if a.m = 0 ∨ 0 < order w a.hi then w else a.hi := rfl
  have e3 : (boundA a u w).m = IntKind.i64.wrap (a.m + 1) := rfl
  have e4 : (boundA a u w).op = a.op := rfl
  have e5 : (boundA a u w).n = a.n := rfl
  have e6 : (boundA a u w).x = a.x := rfl
  have e7 : (boundA a u w).k = a.k := rfl
  have e8 : (boundA a u w).bad = a.bad := rfl
  simp
  refine GTK.call (fun _ => ⟨T_order u a.lo, by simp⟩) ?_
  simp
  repeat (refine ⟨by grind, ?_⟩)
  refine condK_of (fun h => ?_) (fun h => ?_)
  all_goals
    simp at h
    simp
    refine GTK.call (fun _ => ⟨T_order w a.hi, by simp⟩) ?_
    simp
    repeat (refine ⟨by grind, ?_⟩)
    refine condK_of (fun h2 => ?_) (fun h2 => ?_)
    all_goals
      simp at h2
      simp [e1, e2, e3, e4, e5, e6, e7, e8]
      try grind
theorem T_vint (n : Int) : T Tryd.prog 71 [.int .i64 n] (iv n).av := by
  refine T.intro (TS.body mix Tryd.func71 (by kernel_rfl) rfl (by kernel_rfl) (by simp) ?_)
  simp [iv]
theorem T_atotal (a : Acc) (h : -170141183460469231731687303715884105728 ≤ a.x) (h' : a.x < 170141183460469231731687303715884105728) : T Tryd.prog 72 [a.av] (.tup [(totA a).1.av, .int .i64 (totA a).2]) := by
  refine T.intro (TS.body mix Tryd.func72 (by kernel_rfl) rfl (by kernel_rfl) (by simp) ?_)
  simp
  refine condK_of (fun hb => ?_) (fun hb => ?_)
  · simp [totA, hb, zv]
  simp
  refine TS.call' (T_total a.x a.k h h') (by simp [sumA]) ?_
  simp
  repeat (refine ⟨by grind, ?_⟩)
  refine condK_of (fun h2 => ?_) (fun h2 => ?_)
  · simp at h2
    by_cases hx : isI a.x
    · simp [hx] at h2
      simp [totA, hb, hx, h2, zv]
    · simp [totA, hb, hx, zv]
  simp at h2
  have hx : isI a.x := by grind
  simp
  (first | refine TS.call' (T_vint (narN a.x)) (by simp) ?_ | refine TDK.call' (T_vint (narN a.x)) (by simp) ?_ | refine GTK.call (fun _ => ⟨T_vint (narN a.x), by simp⟩) ?_ | refine TS.call (T_vint (narN a.x)) (by simp) ?_ | refine TDK.call (T_vint (narN a.x)) (by simp) ?_); simp
  simp [totA, hb, hx, h2.2, iv, narN]
theorem T_result (a : Acc) (h : -170141183460469231731687303715884105728 ≤ a.x) (h' : a.x < 170141183460469231731687303715884105728) : T Tryd.prog 57 [a.av] (.tup [(resA a).1.av, .int .i64 (resA a).2]) := by
  refine T.intro (TS.body mix Tryd.func57 (by kernel_rfl) rfl (by kernel_rfl) (by simp) ?_)
  simp
  refine condK_of (fun h1 => ?_) (fun h1 => ?_)
  · simp at h1
    simp
    (first | refine TS.call' (T_vint a.n) (by simp) ?_ | refine TDK.call' (T_vint a.n) (by simp) ?_ | refine GTK.call (fun _ => ⟨T_vint a.n, by simp⟩) ?_ | refine TS.call (T_vint a.n) (by simp) ?_ | refine TDK.call (T_vint a.n) (by simp) ?_); simp
    simp [resA, h1]
  simp at h1
  simp
  refine condK_of (fun h2 => ?_) (fun h2 => ?_)
  · simp at h2
    simp
    (first | refine TS.call' (T_vint a.m) (by simp) ?_ | refine TDK.call' (T_vint a.m) (by simp) ?_ | refine GTK.call (fun _ => ⟨T_vint a.m, by simp⟩) ?_ | refine TS.call (T_vint a.m) (by simp) ?_ | refine TDK.call (T_vint a.m) (by simp) ?_); simp
    simp [resA, h1, h2]
  simp at h2
  simp
  refine condK_of (fun h3 => ?_) (fun h3 => ?_)
  · simp at h3
    simp
    (first | refine TS.call' (T_atotal a h h') (by simp) ?_ | refine TDK.call' (T_atotal a h h') (by simp) ?_ | refine GTK.call (fun _ => ⟨T_atotal a h h', by simp⟩) ?_ | refine TS.call (T_atotal a h h') (by simp) ?_ | refine TDK.call (T_atotal a h h') (by simp) ?_); simp
    simp [resA, h1, h2, h3]
  simp at h3
  simp
  refine condK_of (fun h4 => ?_) (fun h4 => ?_)
  · simp at h4
    simp [resA, h1, h2, h3, h4]
  simp at h4
  simp
  refine condK_of (fun h5 => ?_) (fun h5 => ?_)
  · simp at h5
    simp [resA, h1, h2, h3, h4, h5]
  simp at h5
  simp [resA, h1, h2, h3, h4, h5, zv]
theorem T_feed (a : Acc) (v : Val) (hv : isI v.i) : T Tryd.prog 56 [a.av, v.av] (feedA a v).av := by
  refine T.intro (TS.body mix Tryd.func56 (by kernel_rfl) rfl (by kernel_rfl) (by simp) ?_)
  simp
  (first | refine TS.call' (T_isNull v) (by simp) ?_ | refine TDK.call' (T_isNull v) (by simp) ?_ | refine GTK.call (fun _ => ⟨T_isNull v, by simp⟩) ?_ | refine TS.call (T_isNull v) (by simp) ?_ | refine TDK.call (T_isNull v) (by simp) ?_); simp
  refine condK_of (fun h1 => ?_) (fun h1 => ?_)
  · simp at h1
    simp [feedA, h1]
  simp at h1
  simp
  refine condK_of (fun h2 => ?_) (fun h2 => ?_)
  · simp at h2
    simp
    refine TS.call' (T_aplus a.x a.k v.i hv) (by simp [sumA]) ?_
    simp [sumA]
    refine TS.call' (T_bound { a with n := IntKind.i64.wrap (a.n + 1), x := a.x + v.i, k := IntKind.i64.wrap (a.k + 1) } v v) (by simp) ?_
    have : feedA a v = boundA { a with n := IntKind.i64.wrap (a.n + 1), x := a.x + v.i, k := IntKind.i64.wrap (a.k + 1) } v v := by simp [feedA, h1, h2]
    rw [← this]
    simp
  · simp at h2
    simp
    refine TS.call' (T_bound { a with n := IntKind.i64.wrap (a.n + 1), bad := true } v v) (by simp) ?_
    have : feedA a v = boundA { a with n := IntKind.i64.wrap (a.n + 1), bad := true } v v := by simp [feedA, h1, h2]
    rw [← this]
    simp

theorem feedL_next {a : Acc} {l : List Val} {i : Nat} (h : i < l.length) : feedL a (l.take (i + 1)) = feedA (feedL a (l.take i)) l[i] := by
  unfold feedL; rw [take_next h, List.foldl_append]; rfl
/-- what was fed -/
def isum (l : List Val) : Int := (l.map fun v => if v.k = 1 then v.i else 0).sum
structure Fed (a : Acc) (op : Int) (L : List Val) : Prop where
  op : a.op = op
  n : a.n = L.length
  m : a.m = cntN L
  x : a.x = isum L
  lo : Low L a.lo
  hi : High L a.hi
  bad : a.bad = L.any fun v => !decide (v.k = 0) && !decide (v.k = 1)
theorem Fed.start (op : Int) : Fed (startA op) op [] := ⟨rfl, rfl, rfl, rfl, .inl ⟨fun v h => (by cases h), rfl⟩, .inl ⟨fun v h => (by cases h), rfl⟩, rfl⟩
theorem Fed.step {a : Acc} {op : Int} {L : List Val} (h : Fed a op L) (v : Val) (hl : L.length < 4611686018427387904) : Fed (feedA a v) op (L ++ [v]) := by
  have t1 := Tells.one v
  have zA := cntN_zero (L := L)
  have c1 := cnt_all L
  have hm := h.m
  have hn := h.n
  have w1 : IntKind.i64.wrap (a.n + 1) = a.n + 1 := wrap_i64 (by omega) (by omega)
  have w2 : IntKind.i64.wrap (a.m + 1) = a.m + 1 := wrap_i64 (by omega) (by omega)
  have hx : isum (L ++ [v]) = isum L + if v.k = 1 then v.i else 0 := by simp [isum, List.sum_append]
  unfold oneS at t1
  by_cases hk : v.k = 0
  · rw [if_pos hk] at t1
    have al : ∀ w, w ∈ [v] → w.k = 0 := by simp [hk]
    have e : feedA a v = { a with n := IntKind.i64.wrap (a.n + 1) } := by simp [feedA, hk]
    rw [e]
    refine ⟨h.op, ?_, ?_, ?_, ?_, ?_, ?_⟩
    · show IntKind.i64.wrap (a.n + 1) = _
      rw [w1, hn]; simp
    · show a.m = _
      rw [hm]; simp [cntN, hk]
    · show a.x = _
      rw [hx, h.x]; simp [hk]
    · rcases h.lo with ⟨a, b⟩ | ⟨a, b, c⟩
      · exact .inl ⟨fun w hw => (List.mem_append.1 hw).elim (a w) (al w), b⟩
      · exact .inr ⟨List.mem_append_left _ a, b, fun w hw hk => (List.mem_append.1 hw).elim (fun h => c w h hk) (fun h => absurd (al w h) hk)⟩
    · rcases h.hi with ⟨a, b⟩ | ⟨a, b, c⟩
      · exact .inl ⟨fun w hw => (List.mem_append.1 hw).elim (a w) (al w), b⟩
      · exact .inr ⟨List.mem_append_left _ a, b, fun w hw hk => (List.mem_append.1 hw).elim (fun h => c w h hk) (fun h => absurd (al w h) hk)⟩
    · show a.bad = _
      rw [h.bad]; simp [hk]
  · rw [if_neg hk] at t1
    have nb : ¬ ∀ w, w ∈ [v] → w.k = 0 := by simp [hk]
    have lo' := Low.join (decide (a.m = 0 ∨ order v a.lo < 0)) h.lo t1.lo (by rw [← zA]; simp [hk]; omega)
    have hi' := High.join (decide (a.m = 0 ∨ 0 < order v a.hi)) h.hi t1.hi (by rw [← zA]; simp [hk]; omega)
    have cm : cntN (L ++ [v]) = cntN L + 1 := by simp [cntN, hk]
    by_cases h1 : v.k = 1
    · have e : feedA a v = boundA { a with n := IntKind.i64.wrap (a.n + 1), x := a.x + v.i, k := IntKind.i64.wrap (a.k + 1) } v v := by simp [feedA, h1]
      rw [e]
      refine ⟨h.op, ?_, ?_, ?_, ?_, ?_, ?_⟩
      · show IntKind.i64.wrap (a.n + 1) = _
        rw [w1, hn]; simp
      · show IntKind.i64.wrap (a.m + 1) = _
        rw [w2, hm, cm]; rfl
      · show a.x + v.i = _
        rw [hx, h.x, if_pos h1]
      · simpa [boundA] using lo'
      · simpa [boundA] using hi'
      · show a.bad = _
        rw [h.bad]; simp [h1]
    · have e : feedA a v = boundA { a with n := IntKind.i64.wrap (a.n + 1), bad := true } v v := by simp [feedA, hk, h1]
      rw [e]
      refine ⟨h.op, ?_, ?_, ?_, ?_, ?_, ?_⟩
      · show IntKind.i64.wrap (a.n + 1) = _
        rw [w1, hn]; simp
      · show IntKind.i64.wrap (a.m + 1) = _
        rw [w2, hm, cm]; rfl
      · show a.x = _
        rw [hx, h.x, if_neg h1, Int.add_zero]
      · simpa [boundA] using lo'
      · simpa [boundA] using hi'
      · show true = _
        simp [hk, h1]
theorem Fed.all {a : Acc} {op : Int} : ∀ {l A : List Val} {a : Acc}, Fed a op A → (A ++ l).length < 4611686018427387904 → Fed (feedL a l) op (A ++ l)
  | [], A, a, h, _ => by simpa [feedL] using h
  | v :: l, A, a, h, hl => by
    have h1 := h.step v (by simp at hl; omega)
    have h2 := Fed.all (a := a) (l := l) h1 (by simpa using hl)
    simpa [feedL] using h2
theorem Low.null {L : List Val} {x : Val} (h : Low L x) (hn : ∀ v, v ∈ L → v.k = 0) : x = zv := h.elim (·.2) fun h => absurd (hn x h.1) h.2.1
theorem High.null {L : List Val} {x : Val} (h : High L x) (hn : ∀ v, v ∈ L → v.k = 0) : x = zv := h.elim (·.2) fun h => absurd (hn x h.1) h.2.1
theorem Fed.merge {a b : Acc} {op : Int} {A B : List Val} (ha : Fed a op A) (hb : Fed b op B) (hl : (A ++ B).length < 4611686018427387904) : Fed (mergeA a b) op (A ++ B) := by
  have c1 := cnt_all A
  have c2 := cnt_all B
  rw [List.length_append] at hl
  have zA := cntN_zero (L := A)
  have zB := cntN_zero (L := B)
  have n1 := ha.n
  have n2 := hb.n
  have m1 := ha.m
  have m2 := hb.m
  have lo' := Low.join (decide (a.m = 0 ∨ 0 < b.m ∧ order b.lo a.lo < 0)) ha.lo hb.lo (by rw [← zA, ← zB]; simp; omega)
  have hi' := High.join (decide (a.m = 0 ∨ 0 < b.m ∧ 0 < order b.hi a.hi)) ha.hi hb.hi (by rw [← zA, ← zB]; simp; omega)
  have ho : a.op = b.op := by rw [ha.op, hb.op]
  have hn : IntKind.i64.wrap (a.n + b.n) = (A ++ B).length := by rw [wrap_i64 (by omega) (by omega), n1, n2]; simp
  have hm : IntKind.i64.wrap (a.m + b.m) = cntN (A ++ B) := by rw [wrap_i64 (by omega) (by omega), m1, m2]; simp [cntN]
  have hx : a.x + b.x = isum (A ++ B) := by rw [ha.x, hb.x]; simp [isum, List.sum_append]
  have hbad : (a.bad || b.bad) = (A ++ B).any fun v => !decide (v.k = 0) && !decide (v.k = 1) := by rw [ha.bad, hb.bad]; simp
  by_cases h0 : 0 < b.m
  · refine ⟨?_, by simpa [mergeA, ho] using hn, by simpa [mergeA, ho] using hm, by simpa [mergeA, ho] using hx, ?_, ?_, by simpa [mergeA, ho] using hbad⟩
    · simpa [mergeA, ho, h0, boundA] using hb.op
    · have : (mergeA a b).lo = if a.m = 0 ∨ order b.lo a.lo < 0 then b.lo else a.lo := by simp [mergeA, ho, h0, boundA]
      rw [this]
      simpa [h0] using lo'
    · have : (mergeA a b).hi = if a.m = 0 ∨ 0 < order b.hi a.hi then b.hi else a.hi := by simp [mergeA, ho, h0, boundA]
      rw [this]
      simpa [h0] using hi'
  · refine ⟨?_, by simpa [mergeA, ho] using hn, by simpa [mergeA, ho] using hm, by simpa [mergeA, ho] using hx, ?_, ?_, by simpa [mergeA, ho] using hbad⟩
    · simpa [mergeA, ho, h0, boundA] using hb.op
    · have : (mergeA a b).lo = a.lo := by simp [mergeA, ho, h0]
      rw [this]
      have e : a.lo = if decide (a.m = 0 ∨ 0 < b.m ∧ order b.lo a.lo < 0) = true then b.lo else a.lo := by
        split
        · rename_i hc
          simp [h0] at hc
          rw [ha.lo.null (zA.1 (by omega)), hb.lo.null (zB.1 (by omega))]
        · rfl
      rw [e]
      exact lo'
    · have : (mergeA a b).hi = a.hi := by simp [mergeA, ho, h0]
      rw [this]
      have e : a.hi = if decide (a.m = 0 ∨ 0 < b.m ∧ 0 < order b.hi a.hi) = true then b.hi else a.hi := by
        split
        · rename_i hc
          simp [h0] at hc
          rw [ha.hi.null (zA.1 (by omega)), hb.hi.null (zB.1 (by omega))]
        · rfl
      rw [e]
      exact hi'
theorem isum_bound : ∀ l : List Val, (∀ v, v ∈ l → isI v.i) → -(9223372036854775808 * (l.length : Int)) ≤ isum l ∧ isum l ≤ 9223372036854775808 * (l.length : Int)
  | [], _ => by simp [isum]
  | v :: l, h => by
    have h1 := h v (List.mem_cons_self ..)
    have h2 := isum_bound l fun x hx => h x (List.mem_cons_of_mem _ hx)
    unfold isI at h1
    unfold isum at h2 ⊢
    simp only [List.map_cons, List.sum_cons, List.length_cons]
    split <;> omega
theorem Fed.of (op : Int) (l : List Val) (hl : l.length ≤ 1000) : Fed (feedL (startA op) l) op l := by
  have := Fed.all (a := startA op) (l := l) (Fed.start op) (by simp; omega)
  simpa using this
theorem fed_bound (op : Int) (l : List Val) (hl : l.length ≤ 1000) (hi : ∀ v, v ∈ l → isI v.i) : -170141183460469231731687303715884105728 ≤ (feedL (startA op) l).x ∧ (feedL (startA op) l).x < 170141183460469231731687303715884105728 := by
  rw [(Fed.of op l hl).x]
  have := isum_bound l hi
  omega
theorem T_aof (op : Int) (l : List Val) (hl : l.length ≤ 1000) (hi : ∀ v, v ∈ l → isI v.i) : T Tryd.prog 36 [.int .i64 op, rowA l] (.tup [(resA (feedL (startA op) l)).1.av, .int .i64 (resA (feedL (startA op) l)).2]) := by
  refine T.intro (TS.body mix Tryd.func36 (by kernel_rfl) rfl (by kernel_rfl) (by simp) ?_)
  simp
  (first | refine TS.call' (T_start op) (by simp) ?_ | refine TDK.call' (T_start op) (by simp) ?_ | refine GTK.call (fun _ => ⟨T_start op, by simp⟩) ?_ | refine TS.call (T_start op) (by simp) ?_ | refine TDK.call (T_start op) (by simp) ?_); simp
  refine vc_loop (fun i : Nat => l.length - i) (fun i e H => ∃ junk, e 11 = rowA l ∧ e 12 = .int .i64 l.length ∧ e 4 = .ptr 0 0 ∧ e 6 = .ptr 1 0 ∧ e 13 = .int .i64 i ∧ i ≤ l.length ∧ H = .box [.int .i64 0, .int .i64 0, .str ByteArray.empty] :: .box (feedL (startA op) (l.take i)).cs :: junk) 0 ?_ ?_
  · exact ⟨[], by simp [startA, zv, feedL]⟩
  rintro i e H ⟨junk, h11, h12, h4, h6, h13, hle, rfl⟩
  by_cases h : i < l.length
  · have en := feedL_next (a := startA op) h
    simp [h11, h12, h4, h6, h13, h]
    refine TS.call' (T_feed (feedL (startA op) (l.take i)) l[i] (hi _ (List.getElem_mem h))) (by simp) ?_
    simp [h11, h12, h4, h6, h13, h]
    exact ⟨i + 1, by omega, wrap_next h (by omega), by omega, by rw [en]; simp⟩
  · have : i = l.length := by omega
    subst this
    rw [List.take_length]
    simp [h11, h12, h4, h6, h13]
    have hb := fed_bound op l hl hi
    refine TS.call' (T_result (feedL (startA op) l) hb.1 hb.2) (by simp) ?_
    simp [h4]
def rsumV (F : List Val) : Val × Int :=
  if (F.any fun v => !decide (v.k = 1)) = true then (zv, 3) else if ¬ isI (F.map (·.i)).sum then (zv, 5) else if F = [] then (zv, 0) else (iv (F.map (·.i)).sum, 0)
def nn (l : List Val) : List Val := l.filter fun v => !decide (v.k = 0)
theorem nn_next {l : List Val} {i : Nat} (h : i < l.length) : nn (l.take (i + 1)) = nn (l.take i) ++ if l[i].k = 0 then [] else [l[i]] := by
  unfold nn; rw [take_next h, List.filter_append]
  by_cases hk : l[i].k = 0 <;> simp [hk]
theorem mem_nn {l : List Val} {v : Val} : v ∈ nn l ↔ v ∈ l ∧ v.k ≠ 0 := by simp [nn]
theorem Low.nn {l : List Val} {x : Val} (h : Low (nn l) x) : Low l x := by
  rcases h with ⟨a, rfl⟩ | ⟨a, b, c⟩
  · exact .inl ⟨fun v hv => Decidable.byContradiction fun hk => hk (a v (mem_nn.2 ⟨hv, hk⟩)), rfl⟩
  · exact .inr ⟨(mem_nn.1 a).1, b, fun v hv hk => c v (mem_nn.2 ⟨hv, hk⟩) hk⟩
theorem High.nn {l : List Val} {x : Val} (h : High (nn l) x) : High l x := by
  rcases h with ⟨a, rfl⟩ | ⟨a, b, c⟩
  · exact .inl ⟨fun v hv => Decidable.byContradiction fun hk => hk (a v (mem_nn.2 ⟨hv, hk⟩)), rfl⟩
  · exact .inr ⟨(mem_nn.1 a).1, b, fun v hv hk => c v (mem_nn.2 ⟨hv, hk⟩) hk⟩
theorem nn_sum : ∀ l : List Val, (∀ v, v ∈ nn l → v.k = 1) → ((nn l).map (·.i)).sum = isum l
  | [], _ => rfl
  | v :: l, h => by
    by_cases hk : v.k = 0
    · have e : nn (v :: l) = nn l := by simp [nn, hk]
      rw [e] at h ⊢
      rw [nn_sum l h]
      simp [isum, hk]
    · have e : nn (v :: l) = v :: nn l := by simp [nn, hk]
      rw [e] at h ⊢
      have h1 := h v (List.mem_cons_self ..)
      have ih := nn_sum l fun w hw => h w (List.mem_cons_of_mem _ hw)
      simp only [List.map_cons, List.sum_cons, ih]
      simp [isum, h1]
theorem rsum_tot {a : Acc} {op : Int} {l : List Val} (h : Fed a op l) : rsumV (nn l) = totA a := by
  have e : ((nn l).any fun v => !decide (v.k = 1)) = a.bad := by
    rw [h.bad]
    simp only [nn, List.any_filter]
  unfold rsumV totA
  rw [e]
  cases hb : a.bad with
  | true => simp
  | false =>
    have hk : ∀ v, v ∈ nn l → v.k = 1 := by
      rw [hb, List.any_eq_false] at e
      intro v hv
      simpa using e v hv
    have es := nn_sum l hk
    have em : a.m = 0 ↔ nn l = [] := by
      rw [h.m]
      show ((nn l).length : Int) = 0 ↔ _
      rw [← List.length_eq_zero_iff]; omega
    rw [es, h.x]
    simp only [em]
theorem T_code14 (n : Int) : T Tryd.prog 37 [.int .i64 n] (.int .i64 n) := by
  refine T.intro (TS.body mix Tryd.func37 (by kernel_rfl) rfl (by kernel_rfl) (by simp) ?_)
  simp
theorem T_live14 : T Tryd.prog 9 [] (.bool true) := by
  refine T.intro (TS.body mix Tryd.func9 (by kernel_rfl) rfl (by kernel_rfl) (by simp) ?_)
  simp
  have e1 : resA (feedL (startA 18) [⟨1, 1, ByteArray.empty⟩, ⟨0, 0, ByteArray.empty⟩]) = (iv 1, 0) := by kernel_rfl
  have e2 : resA (feedL (startA 5) []) = (zv, 3) := by kernel_rfl
  have t1 := T_aof 18 [⟨1, 1, ByteArray.empty⟩, ⟨0, 0, ByteArray.empty⟩] (by decide) (by intro v hv; simp at hv; rcases hv with rfl | rfl <;> unfold isI <;> decide)
  have t2 := T_aof 5 [] (by decide) (by intro v hv; cases hv)
  rw [e1] at t1
  rw [e2] at t2
  refine TS.call t1 (by simp) ?_
  simp [iv]
  refine TS.call t2 (by simp) ?_
  simp [zv]
  (first | refine TS.call' (T_code14 0) (by simp) ?_ | refine TDK.call' (T_code14 0) (by simp) ?_ | refine GTK.call (fun _ => ⟨T_code14 0, by simp⟩) ?_ | refine TS.call (T_code14 0) (by simp) ?_ | refine TDK.call (T_code14 0) (by simp) ?_); simp
  (first | refine TS.call' (T_code14 3) (by simp) ?_ | refine TDK.call' (T_code14 3) (by simp) ?_ | refine GTK.call (fun _ => ⟨T_code14 3, by simp⟩) ?_ | refine TS.call (T_code14 3) (by simp) ?_ | refine TDK.call (T_code14 3) (by simp) ?_); simp


end Go.Proofs.YtaahlhhpmooliaaDoor.PL
