/- What the functions of aggregates tell. -/
import Derived.Test.YtgmhmdmfnmlhmabFSpan
import Derived.Test.YtgmhmdmfnmlhmabFArith2
namespace Go.Proofs.Ytgmhmdmfnmlhmab.PL
open Go.Proofs
set_option linter.unusedVariables false
set_option linter.unusedSimpArgs false
structure Acc where
  op : Int
  n : Int
  m : Int
  x : Int
  k : Int
  lo : Val
  hi : Val
  bad : Bool
abbrev Acc.cs (a : Acc) : List AV := [.int .i64 a.op, .int .i64 a.n, .int .i64 a.m, .int .u64 (hi64 a.x), .int .u64 (lo64 a.x), .int .i64 a.k, .int .i64 a.lo.k, .int .i64 a.lo.i, .str a.lo.s, .int .i64 a.hi.k, .int .i64 a.hi.i, .str a.hi.s, .bool a.bad]
abbrev Acc.av (a : Acc) : AV := .agg a.cs
def startA (op : Int) : Acc := ⟨op, 0, 0, 0, 0, zv, zv, false⟩
def boundA (a : Acc) (l h : Val) : Acc := { a with lo := if a.m = 0 ∨ order l a.lo < 0 then l else a.lo, hi := if a.m = 0 ∨ 0 < order h a.hi then h else a.hi, m := IntKind.i64.wrap (a.m + 1) }
def feedA (a : Acc) (v : Val) : Acc :=
  if v.k = 0 then { a with n := IntKind.i64.wrap (a.n + 1) }
  else if v.k = 1 then boundA { a with n := IntKind.i64.wrap (a.n + 1), x := a.x + v.i, k := IntKind.i64.wrap (a.k + 1) } v v
  else boundA { a with n := IntKind.i64.wrap (a.n + 1), bad := true } v v
def feedL (a : Acc) (l : List Val) : Acc := l.foldl feedA a
def iv (n : Int) : Val := ⟨1, n, ByteArray.empty⟩
def totA (a : Acc) : Val × Int := if a.bad = true then (zv, 3) else if ¬ isI a.x then (zv, 5) else if a.m = 0 then (zv, 0) else (iv a.x, 0)
def resA (a : Acc) : Val × Int :=
  if a.op = 17 then (iv a.n, 0) else if a.op = 18 then (iv a.m, 0) else if a.op = 19 then totA a else if a.op = 20 then (a.lo, 0) else if a.op = 21 then (a.hi, 0) else (zv, 3)
def mergeA (a b : Acc) : Acc :=
  if a.op ≠ b.op then a else
    let c := if 0 < b.m then boundA a b.lo b.hi else a
    { c with n := IntKind.i64.wrap (a.n + b.n), m := IntKind.i64.wrap (a.m + b.m), x := a.x + b.x, k := IntKind.i64.wrap (a.k + b.k), bad := a.bad || b.bad }
theorem T_start (op : Int) : T Try.prog 80 [.int .i64 op] (startA op).av := by
  refine T.intro (TS.body mix Try.func80 (by kernel_rfl) rfl (by kernel_rfl) (by simp) ?_)
  simp
  simp [startA, zv, hi64, lo64]
theorem T_bound (a : Acc) (u w : Val) : T Try.prog 104 [a.av, u.av, w.av] (boundA a u w).av := by
  refine T.intro (TS.body mix Try.func104 (by kernel_rfl) rfl (by kernel_rfl) (by simp) ?_)
  have e1 : (boundA a u w).lo = if a.m = 0 ∨ order u a.lo < 0 then u else a.lo := rfl
  have e2 : (boundA a u w).hi = if a.m = 0 ∨ 0 < order w a.hi then w else a.hi := rfl
  have e3 : (boundA a u w).m = IntKind.i64.wrap (a.m + 1) := rfl
  have e4 : (boundA a u w).op = a.op := rfl
  have e5 : (boundA a u w).n = a.n := rfl
  have e6 : (boundA a u w).x = a.x := rfl
  have e7 : (boundA a u w).k = a.k := rfl
  have e8 : (boundA a u w).bad = a.bad := rfl
  simp
  refine GTK.call (fun _ => ⟨T_order u a.lo, by simp⟩) ?_
  simp
  repeat (refine ⟨by grind, ?_⟩)
  refine condK_of (fun h => ?_) (fun h => ?_)
  all_goals
    simp at h
    simp
    refine GTK.call (fun _ => ⟨T_order w a.hi, by simp⟩) ?_
    simp
    repeat (refine ⟨by grind, ?_⟩)
    refine condK_of (fun h2 => ?_) (fun h2 => ?_)
    all_goals
      simp at h2
      simp [e1, e2, e3, e4, e5, e6, e7, e8]
      try grind
theorem T_vint (n : Int) : T Try.prog 105 [.int .i64 n] (iv n).av := by
  refine T.intro (TS.body mix Try.func105 (by kernel_rfl) rfl (by kernel_rfl) (by simp) ?_)
  simp [iv]
theorem T_atotal (a : Acc) (h : -170141183460469231731687303715884105728 ≤ a.x) (h' : a.x < 170141183460469231731687303715884105728) : T Try.prog 106 [a.av] (.tup [(totA a).1.av, .int .i64 (totA a).2]) := by
  refine T.intro (TS.body mix Try.func106 (by kernel_rfl) rfl (by kernel_rfl) (by simp) ?_)
  simp
  refine condK_of (fun hb => ?_) (fun hb => ?_)
  · simp [totA, hb, zv]
  simp
  refine TS.call' (T_total a.x a.k h h') (by simp [sumA]) ?_
  simp
  repeat (refine ⟨by grind, ?_⟩)
  refine condK_of (fun h2 => ?_) (fun h2 => ?_)
  · simp at h2
    by_cases hx : isI a.x
    · simp [hx] at h2
      simp [totA, hb, hx, h2, zv]
    · simp [totA, hb, hx, zv]
  simp at h2
  have hx : isI a.x := by grind
  simp
  (first | refine TS.call' (T_vint (narN a.x)) (by simp) ?_ | refine TDK.call' (T_vint (narN a.x)) (by simp) ?_ | refine GTK.call (fun _ => ⟨T_vint (narN a.x), by simp⟩) ?_ | refine TS.call (T_vint (narN a.x)) (by simp) ?_ | refine TDK.call (T_vint (narN a.x)) (by simp) ?_); simp
  simp [totA, hb, hx, h2.2, iv, narN]
theorem T_result (a : Acc) (h : -170141183460469231731687303715884105728 ≤ a.x) (h' : a.x < 170141183460469231731687303715884105728) : T Try.prog 82 [a.av] (.tup [(resA a).1.av, .int .i64 (resA a).2]) := by
  refine T.intro (TS.body mix Try.func82 (by kernel_rfl) rfl (by kernel_rfl) (by simp) ?_)
  simp
  refine condK_of (fun h1 => ?_) (fun h1 => ?_)
  · simp at h1
    simp
    (first | refine TS.call' (T_vint a.n) (by simp) ?_ | refine TDK.call' (T_vint a.n) (by simp) ?_ | refine GTK.call (fun _ => ⟨T_vint a.n, by simp⟩) ?_ | refine TS.call (T_vint a.n) (by simp) ?_ | refine TDK.call (T_vint a.n) (by simp) ?_); simp
    simp [resA, h1]
  simp at h1
  simp
  refine condK_of (fun h2 => ?_) (fun h2 => ?_)
  · simp at h2
    simp
    (first | refine TS.call' (T_vint a.m) (by simp) ?_ | refine TDK.call' (T_vint a.m) (by simp) ?_ | refine GTK.call (fun _ => ⟨T_vint a.m, by simp⟩) ?_ | refine TS.call (T_vint a.m) (by simp) ?_ | refine TDK.call (T_vint a.m) (by simp) ?_); simp
    simp [resA, h1, h2]
  simp at h2
  simp
  refine condK_of (fun h3 => ?_) (fun h3 => ?_)
  · simp at h3
    simp
    (first | refine TS.call' (T_atotal a h h') (by simp) ?_ | refine TDK.call' (T_atotal a h h') (by simp) ?_ | refine GTK.call (fun _ => ⟨T_atotal a h h', by simp⟩) ?_ | refine TS.call (T_atotal a h h') (by simp) ?_ | refine TDK.call (T_atotal a h h') (by simp) ?_); simp
    simp [resA, h1, h2, h3]
  simp at h3
  simp
  refine condK_of (fun h4 => ?_) (fun h4 => ?_)
  · simp at h4
    simp [resA, h1, h2, h3, h4]
  simp at h4
  simp
  refine condK_of (fun h5 => ?_) (fun h5 => ?_)
  · simp at h5
    simp [resA, h1, h2, h3, h4, h5]
  simp at h5
  simp [resA, h1, h2, h3, h4, h5, zv]
theorem T_feed (a : Acc) (v : Val) (hv : isI v.i) : T Try.prog 81 [a.av, v.av] (feedA a v).av := by
  refine T.intro (TS.body mix Try.func81 (by kernel_rfl) rfl (by kernel_rfl) (by simp) ?_)
  simp
  (first | refine TS.call' (T_isNull v) (by simp) ?_ | refine TDK.call' (T_isNull v) (by simp) ?_ | refine GTK.call (fun _ => ⟨T_isNull v, by simp⟩) ?_ | refine TS.call (T_isNull v) (by simp) ?_ | refine TDK.call (T_isNull v) (by simp) ?_); simp
  refine condK_of (fun h1 => ?_) (fun h1 => ?_)
  · simp at h1
    simp [feedA, h1]
  simp at h1
  simp
  refine condK_of (fun h2 => ?_) (fun h2 => ?_)
  · simp at h2
    simp
    refine TS.call' (T_aplus a.x a.k v.i hv) (by simp [sumA]) ?_
    simp [sumA]
    refine TS.call' (T_bound { a with n := IntKind.i64.wrap (a.n + 1), x := a.x + v.i, k := IntKind.i64.wrap (a.k + 1) } v v) (by simp) ?_
    have : feedA a v = boundA { a with n := IntKind.i64.wrap (a.n + 1), x := a.x + v.i, k := IntKind.i64.wrap (a.k + 1) } v v := by simp [feedA, h1, h2]
    rw [← this]
    simp
  · simp at h2
    simp
    refine TS.call' (T_bound { a with n := IntKind.i64.wrap (a.n + 1), bad := true } v v) (by simp) ?_
    have : feedA a v = boundA { a with n := IntKind.i64.wrap (a.n + 1), bad := true } v v := by simp [feedA, h1, h2]
    rw [← this]
    simp
theorem T_merge (a b : Acc) : T Try.prog 83 [a.av, b.av] (mergeA a b).av := by
  refine T.intro (TS.bodyM [100007, 1071201, 1071203, 1071206, 1071401, 1071403, 1071406, 1071409] mix Try.func83 (by kernel_rfl) rfl (by kernel_rfl) (by simp) ?_)
  simp
  refine condK_of (fun h1 => ?_) (fun h1 => ?_)
  · simp at h1
    simp [mergeA, h1]
  simp at h1
  simp
  refine condK_of (fun h2 => ?_) (fun h2 => ?_)
  · simp at h2
    simp
    (first | refine TS.call' (T_bound a b.lo b.hi) (by simp) ?_ | refine TDK.call' (T_bound a b.lo b.hi) (by simp) ?_ | refine GTK.call (fun _ => ⟨T_bound a b.lo b.hi, by simp⟩) ?_ | refine TS.call (T_bound a b.lo b.hi) (by simp) ?_ | refine TDK.call (T_bound a b.lo b.hi) (by simp) ?_); simp
    generalize hc : boundA a b.lo b.hi = c
    have e : mergeA a b = { c with n := IntKind.i64.wrap (c.n + b.n), m := IntKind.i64.wrap (a.m + b.m), x := c.x + b.x, k := IntKind.i64.wrap (c.k + b.k), bad := c.bad || b.bad } := by
      subst hc
      simp [mergeA, h1, h2, boundA]
    rw [e]
    refine TDK.call' (T_join c.x b.x c.k b.k) (by simp [sumA]) ?_
    simp [sumA]
  · simp at h2
    simp
    have e : mergeA a b = { a with n := IntKind.i64.wrap (a.n + b.n), m := IntKind.i64.wrap (a.m + b.m), x := a.x + b.x, k := IntKind.i64.wrap (a.k + b.k), bad := a.bad || b.bad } := by
      have : ¬ 0 < b.m := by omega
      simp [mergeA, h1, this]
    rw [e]
    refine TDK.call' (T_join a.x b.x a.k b.k) (by simp [sumA]) ?_
    simp [sumA]
theorem feedL_next {a : Acc} {l : List Val} {i : Nat} (h : i < l.length) : feedL a (l.take (i + 1)) = feedA (feedL a (l.take i)) l[i] := by
  unfold feedL; rw [take_next h, List.foldl_append]; rfl
/-- what was fed -/
def isum (l : List Val) : Int := (l.map fun v => if v.k = 1 then v.i else 0).sum
structure Fed (a : Acc) (op : Int) (L : List Val) : Prop where
  op : a.op = op
  n : a.n = L.length
  m : a.m = cntN L
  x : a.x = isum L
  lo : Low L a.lo
  hi : High L a.hi
  bad : a.bad = L.any fun v => !decide (v.k = 0) && !decide (v.k = 1)
theorem Fed.start (op : Int) : Fed (startA op) op [] := ⟨rfl, rfl, rfl, rfl, .inl ⟨fun v h => (by cases h), rfl⟩, .inl ⟨fun v h => (by cases h), rfl⟩, rfl⟩
theorem Fed.step {a : Acc} {op : Int} {L : List Val} (h : Fed a op L) (v : Val) (hl : L.length < 4611686018427387904) : Fed (feedA a v) op (L ++ [v]) := by
  have t1 := Tells.one v
  have zA := cntN_zero (L := L)
  have c1 := cnt_all L
  have hm := h.m
  have hn := h.n
  have w1 : IntKind.i64.wrap (a.n + 1) = a.n + 1 := wrap_i64 (by omega) (by omega)
  have w2 : IntKind.i64.wrap (a.m + 1) = a.m + 1 := wrap_i64 (by omega) (by omega)
  have hx : isum (L ++ [v]) = isum L + if v.k = 1 then v.i else 0 := by simp [isum, List.sum_append]
  unfold oneS at t1
  by_cases hk : v.k = 0
  · rw [if_pos hk] at t1
    have al : ∀ w, w ∈ [v] → w.k = 0 := by simp [hk]
    have e : feedA a v = { a with n := IntKind.i64.wrap (a.n + 1) } := by simp [feedA, hk]
    rw [e]
    refine ⟨h.op, ?_, ?_, ?_, ?_, ?_, ?_⟩
    · show IntKind.i64.wrap (a.n + 1) = _
      rw [w1, hn]; simp
    · show a.m = _
      rw [hm]; simp [cntN, hk]
    · show a.x = _
      rw [hx, h.x]; simp [hk]
    · rcases h.lo with ⟨a, b⟩ | ⟨a, b, c⟩
      · exact .inl ⟨fun w hw => (List.mem_append.1 hw).elim (a w) (al w), b⟩
      · exact .inr ⟨List.mem_append_left _ a, b, fun w hw hk => (List.mem_append.1 hw).elim (fun h => c w h hk) (fun h => absurd (al w h) hk)⟩
    · rcases h.hi with ⟨a, b⟩ | ⟨a, b, c⟩
      · exact .inl ⟨fun w hw => (List.mem_append.1 hw).elim (a w) (al w), b⟩
      · exact .inr ⟨List.mem_append_left _ a, b, fun w hw hk => (List.mem_append.1 hw).elim (fun h => c w h hk) (fun h => absurd (al w h) hk)⟩
    · show a.bad = _
      rw [h.bad]; simp [hk]
  · rw [if_neg hk] at t1
    have nb : ¬ ∀ w, w ∈ [v] → w.k = 0 := by simp [hk]
    have lo' := Low.join (decide (a.m = 0 ∨ order v a.lo < 0)) h.lo t1.lo (by rw [← zA]; simp [hk]; omega)
    have hi' := High.join (decide (a.m = 0 ∨ 0 < order v a.hi)) h.hi t1.hi (by rw [← zA]; simp [hk]; omega)
    have cm : cntN (L ++ [v]) = cntN L + 1 := by simp [cntN, hk]
    by_cases h1 : v.k = 1
    · have e : feedA a v = boundA { a with n := IntKind.i64.wrap (a.n + 1), x := a.x + v.i, k := IntKind.i64.wrap (a.k + 1) } v v := by simp [feedA, h1]
      rw [e]
      refine ⟨h.op, ?_, ?_, ?_, ?_, ?_, ?_⟩
      · show IntKind.i64.wrap (a.n + 1) = _
        rw [w1, hn]; simp
      · show IntKind.i64.wrap (a.m + 1) = _
        rw [w2, hm, cm]; rfl
      · show a.x + v.i = _
        rw [hx, h.x, if_pos h1]
      · simpa [boundA] using lo'
      · simpa [boundA] using hi'
      · show a.bad = _
        rw [h.bad]; simp [h1]
    · have e : feedA a v = boundA { a with n := IntKind.i64.wrap (a.n + 1), bad := true } v v := by simp [feedA, hk, h1]
      rw [e]
      refine ⟨h.op, ?_, ?_, ?_, ?_, ?_, ?_⟩
      · show IntKind.i64.wrap (a.n + 1) = _
        rw [w1, hn]; simp
      · show IntKind.i64.wrap (a.m + 1) = _
        rw [w2, hm, cm]; rfl
      · show a.x = _
        rw [hx, h.x, if_neg h1, Int.add_zero]
      · simpa [boundA] using lo'
      · simpa [boundA] using hi'
      · show true = _
        simp [hk, h1]
theorem Fed.all {a : Acc} {op : Int} : ∀ {l A : List Val} {a : Acc}, Fed a op A → (A ++ l).length < 4611686018427387904 → Fed (feedL a l) op (A ++ l)
  | [], A, a, h, _ => by simpa [feedL] using h
  | v :: l, A, a, h, hl => by
    have h1 := h.step v (by simp at hl; omega)
    have h2 := Fed.all (a := a) (l := l) h1 (by simpa using hl)
    simpa [feedL] using h2
theorem Low.null {L : List Val} {x : Val} (h : Low L x) (hn : ∀ v, v ∈ L → v.k = 0) : x = zv := h.elim (·.2) fun h => absurd (hn x h.1) h.2.1
theorem High.null {L : List Val} {x : Val} (h : High L x) (hn : ∀ v, v ∈ L → v.k = 0) : x = zv := h.elim (·.2) fun h => absurd (hn x h.1) h.2.1
theorem Fed.merge {a b : Acc} {op : Int} {A B : List Val} (ha : Fed a op A) (hb : Fed b op B) (hl : (A ++ B).length < 4611686018427387904) : Fed (mergeA a b) op (A ++ B) := by
  have c1 := cnt_all A
  have c2 := cnt_all B
  rw [List.length_append] at hl
  have zA := cntN_zero (L := A)
  have zB := cntN_zero (L := B)
  have n1 := ha.n
  have n2 := hb.n
  have m1 := ha.m
  have m2 := hb.m
  have lo' := Low.join (decide (a.m = 0 ∨ 0 < b.m ∧ order b.lo a.lo < 0)) ha.lo hb.lo (by rw [← zA, ← zB]; simp; omega)
  have hi' := High.join (decide (a.m = 0 ∨ 0 < b.m ∧ 0 < order b.hi a.hi)) ha.hi hb.hi (by rw [← zA, ← zB]; simp; omega)
  have ho : a.op = b.op := by rw [ha.op, hb.op]
  have hn : IntKind.i64.wrap (a.n + b.n) = (A ++ B).length := by rw [wrap_i64 (by omega) (by omega), n1, n2]; simp
  have hm : IntKind.i64.wrap (a.m + b.m) = cntN (A ++ B) := by rw [wrap_i64 (by omega) (by omega), m1, m2]; simp [cntN]
  have hx : a.x + b.x = isum (A ++ B) := by rw [ha.x, hb.x]; simp [isum, List.sum_append]
  have hbad : (a.bad || b.bad) = (A ++ B).any fun v => !decide (v.k = 0) && !decide (v.k = 1) := by rw [ha.bad, hb.bad]; simp
  by_cases h0 : 0 < b.m
  · refine ⟨?_, by simpa [mergeA, ho] using hn, by simpa [mergeA, ho] using hm, by simpa [mergeA, ho] using hx, ?_, ?_, by simpa [mergeA, ho] using hbad⟩
    · simpa [mergeA, ho, h0, boundA] using hb.op
    · have : (mergeA a b).lo = if a.m = 0 ∨ order b.lo a.lo < 0 then b.lo else a.lo := by simp [mergeA, ho, h0, boundA]
      rw [this]
      simpa [h0] using lo'
    · have : (mergeA a b).hi = if a.m = 0 ∨ 0 < order b.hi a.hi then b.hi else a.hi := by simp [mergeA, ho, h0, boundA]
      rw [this]
      simpa [h0] using hi'
  · refine ⟨?_, by simpa [mergeA, ho] using hn, by simpa [mergeA, ho] using hm, by simpa [mergeA, ho] using hx, ?_, ?_, by simpa [mergeA, ho] using hbad⟩
    · simpa [mergeA, ho, h0, boundA] using hb.op
    · have : (mergeA a b).lo = a.lo := by simp [mergeA, ho, h0]
      rw [this]
      have e : a.lo = if decide (a.m = 0 ∨ 0 < b.m ∧ order b.lo a.lo < 0) = true then b.lo else a.lo := by
        split
        · rename_i hc
          simp [h0] at hc
          rw [ha.lo.null (zA.1 (by omega)), hb.lo.null (zB.1 (by omega))]
        · rfl
      rw [e]
      exact lo'
    · have : (mergeA a b).hi = a.hi := by simp [mergeA, ho, h0]
      rw [this]
      have e : a.hi = if decide (a.m = 0 ∨ 0 < b.m ∧ 0 < order b.hi a.hi) = true then b.hi else a.hi := by
        split
        · rename_i hc
          simp [h0] at hc
          rw [ha.hi.null (zA.1 (by omega)), hb.hi.null (zB.1 (by omega))]
        · rfl
      rw [e]
      exact hi'
theorem isum_bound : ∀ l : List Val, (∀ v, v ∈ l → isI v.i) → -(9223372036854775808 * (l.length : Int)) ≤ isum l ∧ isum l ≤ 9223372036854775808 * (l.length : Int)
  | [], _ => by simp [isum]
  | v :: l, h => by
    have h1 := h v (List.mem_cons_self ..)
    have h2 := isum_bound l fun x hx => h x (List.mem_cons_of_mem _ hx)
    unfold isI at h1
    unfold isum at h2 ⊢
    simp only [List.map_cons, List.sum_cons, List.length_cons]
    split <;> omega
theorem Fed.of (op : Int) (l : List Val) (hl : l.length ≤ 1000) : Fed (feedL (startA op) l) op l := by
  have := Fed.all (a := startA op) (l := l) (Fed.start op) (by simp; omega)
  simpa using this
theorem fed_bound (op : Int) (l : List Val) (hl : l.length ≤ 1000) (hi : ∀ v, v ∈ l → isI v.i) : -170141183460469231731687303715884105728 ≤ (feedL (startA op) l).x ∧ (feedL (startA op) l).x < 170141183460469231731687303715884105728 := by
  rw [(Fed.of op l hl).x]
  have := isum_bound l hi
  omega
theorem T_aof (op : Int) (l : List Val) (hl : l.length ≤ 1000) (hi : ∀ v, v ∈ l → isI v.i) : T Try.prog 77 [.int .i64 op, rowA l] (.tup [(resA (feedL (startA op) l)).1.av, .int .i64 (resA (feedL (startA op) l)).2]) := by
  refine T.intro (TS.body mix Try.func77 (by kernel_rfl) rfl (by kernel_rfl) (by simp) ?_)
  simp
  (first | refine TS.call' (T_start op) (by simp) ?_ | refine TDK.call' (T_start op) (by simp) ?_ | refine GTK.call (fun _ => ⟨T_start op, by simp⟩) ?_ | refine TS.call (T_start op) (by simp) ?_ | refine TDK.call (T_start op) (by simp) ?_); simp
  refine vc_loop (fun i : Nat => l.length - i) (fun i e H => ∃ junk, e 11 = rowA l ∧ e 12 = .int .i64 l.length ∧ e 4 = .ptr 0 0 ∧ e 6 = .ptr 1 0 ∧ e 13 = .int .i64 i ∧ i ≤ l.length ∧ H = .box [.int .i64 0, .int .i64 0, .str ByteArray.empty] :: .box (feedL (startA op) (l.take i)).cs :: junk) 0 ?_ ?_
  · exact ⟨[], by simp [startA, zv, feedL]⟩
  rintro i e H ⟨junk, h11, h12, h4, h6, h13, hle, rfl⟩
  by_cases h : i < l.length
  · have en := feedL_next (a := startA op) h
    simp [h11, h12, h4, h6, h13, h]
    refine TS.call' (T_feed (feedL (startA op) (l.take i)) l[i] (hi _ (List.getElem_mem h))) (by simp) ?_
    simp [h11, h12, h4, h6, h13, h]
    exact ⟨i + 1, by omega, wrap_next h (by omega), by omega, by rw [en]; simp⟩
  · have : i = l.length := by omega
    subst this
    rw [List.take_length]
    simp [h11, h12, h4, h6, h13]
    have hb := fed_bound op l hl hi
    refine TS.call' (T_result (feedL (startA op) l) hb.1 hb.2) (by simp) ?_
    simp [h4]
def Grow0 (sz : Nat) (J : List HO) (x : AV) (xs : List AV) : Prop := (xs = [] ∧ x = .sl .nil []) ∨ ∃ t, x = .sl (.tok (t + 1)) xs ∧ J[t]? = some (.spare xs.length sz)
theorem Grow0.first {sz : Nat} {J : List HO} {y : AV} : Grow0 sz (J ++ [.spare 1 sz]) (.sl (.tok (J.length + 1)) [y]) [y] := .inr ⟨J.length, rfl, by simp⟩
theorem Grow0.more {sz t n : Nat} {J : List HO} {xs : List AV} {y : AV} (ht : J[t]? = some (.spare xs.length sz)) (hn : n = xs.length + 1) : Grow0 sz (J.set t (.spare n sz)) (.sl (.tok (t + 1)) (xs ++ [y])) (xs ++ [y]) :=
  .inr ⟨t, rfl, by rw [List.getElem?_set_self (List.getElem?_eq_some_iff.1 ht).1]; simp [hn]⟩
theorem Grow0.more' {α : Type} {f : α → AV} {l : List α} {a : α} {sz t n : Nat} {J : List HO} (ht : J[t]? = some (.spare (avs f l).length sz)) (hn : n = l.length + 1) : Grow0 sz (J.set t (.spare n sz)) (.sl (.tok (t + 1)) (avs f (l ++ [a]))) (avs f (l ++ [a])) :=
  .inr ⟨t, rfl, by rw [List.getElem?_set_self (List.getElem?_eq_some_iff.1 ht).1]; simp [hn]⟩
theorem Grow0.own {sz : Nat} {J : List HO} {x : AV} {xs : List AV} (h : Grow0 sz J x xs) : ∃ own, x = .sl own xs := by
  rcases h with ⟨rfl, h⟩ | ⟨t, h, _⟩
  · exact ⟨_, h⟩
  · exact ⟨_, h⟩
def rsumV (F : List Val) : Val × Int :=
  if (F.any fun v => !decide (v.k = 1)) = true then (zv, 3) else if ¬ isI (F.map (·.i)).sum then (zv, 5) else if F = [] then (zv, 0) else (iv (F.map (·.i)).sum, 0)
theorem T_rsum14 (l : List Val) (hl : l.length ≤ 1000) (hi : ∀ v, v ∈ l → isI v.i) : T Try.prog 102 [rowA l] (.tup [(rsumV l).1.av, .int .i64 (rsumV l).2]) := by
  refine T.intro (TS.body mix Try.func102 (by kernel_rfl) rfl (by kernel_rfl) (by simp) ?_)
  simp
  refine vc_loop (fun i : Nat => l.length - i) (fun i e H => ∃ junk, e 0 = rowA l ∧ e 2 = .ptr 0 0 ∧ e 5 = .int .i64 i ∧ i ≤ l.length ∧ Grow0 1 junk (e 4) (ints' ((l.take i).map (·.i))) ∧ (∀ v, v ∈ l.take i → v.k = 1) ∧ H = .box [.int .i64 0, .int .i64 0, .str ByteArray.empty] :: junk) 0 ?_ ?_
  · exact ⟨[], by simp [Grow0]⟩
  rintro i e H ⟨junk, h0, h2, h5, hle, hg, hk, rfl⟩
  by_cases h : i < l.length
  · simp [h0, h2, h5, h]
    refine condK_of (fun h1 => ?_) (fun h1 => ?_)
    · simp at h1
      have : (l.any fun v => !decide (v.k = 1)) = true := by
        rw [List.any_eq_true]; exact ⟨l[i], List.getElem_mem h, by simp [h1]⟩
      simp [h0, h2, h5, h, rsumV, this, zv]
    simp at h1
    have ek : ∀ v, v ∈ l.take (i + 1) → v.k = 1 := fun v hv => by
      rw [take_next h] at hv
      rcases List.mem_append.1 hv with hv | hv
      · exact hk v hv
      · simp at hv; rw [hv]; exact h1
    have em : (l.take (i + 1)).map (·.i) = (l.take i).map (·.i) ++ [l[i].i] := by rw [take_next h, List.map_append]; rfl
    rcases hg with ⟨ge, hg⟩ | ⟨t, hg, ht⟩
    · simp [h0, h2, h5, h, hg]
      refine ⟨i + 1, by omega, wrap_next h (by omega), by omega, ?_, ek⟩
      rw [← List.map_take, em]
      rw [avs_eq_nil] at ge
      rw [ge]
      exact Grow0.first
    · simp [h0, h2, h5, h, hg, ht]
      refine ⟨by omega, i + 1, by omega, wrap_next h (by omega), by omega, ?_, ek⟩
      rw [← List.map_take, ← List.map_take, em, Nat.min_eq_left hle]
      have hlen : i + 1 = ((l.take i).map (·.i)).length + 1 := by simp; omega
      exact Grow0.more' ht hlen
  · have : i = l.length := by omega
    subst this
    rw [List.take_length] at *
    obtain ⟨own, hg⟩ := hg.own
    simp [h0, h2, h5, hg]
    have hn : ¬ (l.any fun v => !decide (v.k = 1)) = true := by
      intro hh
      obtain ⟨v, hv, h1⟩ := List.any_eq_true.1 hh
      simp at h1
      exact h1 (hk v hv)
    have hI : ∀ x, x ∈ l.map (·.i) → isI x := fun x hx => by
      obtain ⟨v, hv, rfl⟩ := List.mem_map.1 hx
      exact hi v hv
    have hsb := sum_bound (l.map (·.i)) hI
    rw [List.length_map] at hsb
    refine TS.call (T_rsum (l.map (·.i)) hI (by simpa using hl)) (by simp) ?_
    simp
    refine TS.call' (T_rtotal (l.map (·.i)).sum (by omega)) (by simp) ?_
    simp
    refine condK_of (fun h1 => ?_) (fun h1 => ?_)
    · simp at h1
      simp [rsumV, hn, h1, zv, h2]
    simp at h1
    simp [h0]
    refine condK_of (fun h3 => ?_) (fun h3 => ?_)
    · simp at h3
      subst h3
      simp [rsumV, zv, h2, isI]
    · simp at h3
      simp [rsumV, hn, h1, h3, iv, h2, narN]
def nn (l : List Val) : List Val := l.filter fun v => !decide (v.k = 0)
theorem nn_next {l : List Val} {i : Nat} (h : i < l.length) : nn (l.take (i + 1)) = nn (l.take i) ++ if l[i].k = 0 then [] else [l[i]] := by
  unfold nn; rw [take_next h, List.filter_append]
  by_cases hk : l[i].k = 0 <;> simp [hk]
theorem mem_nn {l : List Val} {v : Val} : v ∈ nn l ↔ v ∈ l ∧ v.k ≠ 0 := by simp [nn]
theorem Low.nn {l : List Val} {x : Val} (h : Low (nn l) x) : Low l x := by
  rcases h with ⟨a, rfl⟩ | ⟨a, b, c⟩
  · exact .inl ⟨fun v hv => Decidable.byContradiction fun hk => hk (a v (mem_nn.2 ⟨hv, hk⟩)), rfl⟩
  · exact .inr ⟨(mem_nn.1 a).1, b, fun v hv hk => c v (mem_nn.2 ⟨hv, hk⟩) hk⟩
theorem High.nn {l : List Val} {x : Val} (h : High (nn l) x) : High l x := by
  rcases h with ⟨a, rfl⟩ | ⟨a, b, c⟩
  · exact .inl ⟨fun v hv => Decidable.byContradiction fun hk => hk (a v (mem_nn.2 ⟨hv, hk⟩)), rfl⟩
  · exact .inr ⟨(mem_nn.1 a).1, b, fun v hv hk => c v (mem_nn.2 ⟨hv, hk⟩) hk⟩
theorem nn_sum : ∀ l : List Val, (∀ v, v ∈ nn l → v.k = 1) → ((nn l).map (·.i)).sum = isum l
  | [], _ => rfl
  | v :: l, h => by
    by_cases hk : v.k = 0
    · have e : nn (v :: l) = nn l := by simp [nn, hk]
      rw [e] at h ⊢
      rw [nn_sum l h]
      simp [isum, hk]
    · have e : nn (v :: l) = v :: nn l := by simp [nn, hk]
      rw [e] at h ⊢
      have h1 := h v (List.mem_cons_self ..)
      have ih := nn_sum l fun w hw => h w (List.mem_cons_of_mem _ hw)
      simp only [List.map_cons, List.sum_cons, ih]
      simp [isum, h1]
theorem rsum_tot {a : Acc} {op : Int} {l : List Val} (h : Fed a op l) : rsumV (nn l) = totA a := by
  have e : ((nn l).any fun v => !decide (v.k = 1)) = a.bad := by
    rw [h.bad]
    simp only [nn, List.any_filter]
  unfold rsumV totA
  rw [e]
  cases hb : a.bad with
  | true => simp
  | false =>
    have hk : ∀ v, v ∈ nn l → v.k = 1 := by
      rw [hb, List.any_eq_false] at e
      intro v hv
      simpa using e v hv
    have es := nn_sum l hk
    have em : a.m = 0 ↔ nn l = [] := by
      rw [h.m]
      show ((nn l).length : Int) = 0 ↔ _
      rw [← List.length_eq_zero_iff]; omega
    rw [es, h.x]
    simp only [em]
theorem T_rof14 (op : Int) (l : List Val) (hl : l.length ≤ 1000) (hi : ∀ v, v ∈ l → isI v.i) (hs : ∀ v, v ∈ l → v.s.size < 4611686018427387904) : T Try.prog 78 [.int .i64 op, rowA l] (.tup [(resA (feedL (startA op) l)).1.av, .int .i64 (resA (feedL (startA op) l)).2]) := by
  have hF := Fed.of op l hl
  generalize feedL (startA op) l = A at hF
  refine T.intro (TS.body mix Try.func78 (by kernel_rfl) rfl (by kernel_rfl) (by simp) ?_)
  simp
  refine vc_loop (fun i : Nat => l.length - i) (fun i e H => ∃ junk, e 0 = .int .i64 op ∧ e 1 = rowA l ∧ e 4 = .ptr 0 0 ∧ e 7 = .int .i64 i ∧ i ≤ l.length ∧ Grow0 3 junk (e 6) (vals' (nn (l.take i))) ∧ H = .box [.int .i64 0, .int .i64 0, .str ByteArray.empty] :: junk) 0 ?_ ?_
  · exact ⟨[], by simp [Grow0, nn]⟩
  rintro i e H ⟨junk, h0, h1, h4, h7, hle, hg, rfl⟩
  by_cases h : i < l.length
  · have en := nn_next h
    have hnl : (nn (l.take i)).length ≤ i := by
      have := List.length_filter_le (fun v : Val => !decide (v.k = 0)) (l.take i)
      rw [List.length_take] at this
      unfold nn; omega
    simp [h0, h1, h4, h7, h]
    refine condK_of (fun hk => ?_) (fun hk => ?_)
    · simp at hk
      rw [if_neg hk] at en
      rcases hg with ⟨ge, hg⟩ | ⟨t, hg, ht⟩
      · simp [h0, h1, h4, h7, h, hg]
        refine ⟨i + 1, by omega, wrap_next h (by omega), by omega, ?_⟩
        rw [en]
        rw [avs_eq_nil] at ge
        rw [ge]
        exact Grow0.first
      · simp [h0, h1, h4, h7, h, hg, ht]
        refine ⟨by omega, i + 1, by omega, wrap_next h (by omega), by omega, ?_⟩
        rw [en]
        exact Grow0.more' ht rfl
    · simp at hk
      rw [if_pos hk, List.append_nil] at en
      simp [h0, h1, h4, h7, h]
      exact ⟨i + 1, by omega, wrap_next h (by omega), by omega, by rw [en]; exact hg⟩
  have : i = l.length := by omega
  subst this
  rw [List.take_length] at *
  have hnl : (nn l).length ≤ l.length := List.length_filter_le ..
  replace hg := hg.own
  obtain ⟨own, hg⟩ := hg
  simp [h0, h1, h4, h7, hg]
  refine condK_of (fun q1 => ?_) (fun q1 => ?_)
  · simp at q1
    simp [h0, h1, h4, h7, hg, resA, hF.op, q1, iv, hF.n]
  simp at q1
  simp [h0, h1, h4, h7, hg]
  refine condK_of (fun q2 => ?_) (fun q2 => ?_)
  · simp at q2
    simp [h0, h1, h4, h7, hg, resA, hF.op, q1, q2, iv, hF.m]
    rfl
  simp at q2
  simp [h0, h1, h4, h7, hg]
  refine condK_of (fun q3 => ?_) (fun q3 => ?_)
  · simp at q3
    simp [h0, h1, h4, h7, hg]
    refine TS.call (T_rsum14 (nn l) (by omega) fun v hv => hi v (mem_nn.1 hv).1) (by simp) ?_
    rw [rsum_tot hF]
    simp [h4, resA, hF.op, q1, q2, q3]
  simp at q3
  simp [h0, h1, h4, h7, hg]
  refine condK_of (fun q4 => ?_) (fun q4 => ?_)
  · simp at q4
    simp [h0, h1, h4, h7, hg, resA, hF.op, q1, q2, q3, q4, zv]
  simp at q4
  simp [h0, h1, h4, h7, hg]
  refine vc_loop (fun i : Nat => (nn l).length - i) (fun i e H => ∃ best : Val, e 0 = .int .i64 op ∧ e 4 = .ptr 0 0 ∧ e 6 = .sl own (vals' (nn l)) ∧ e 8 = .ptr (junk.length + 1) 0 ∧ e 9 = .int .i64 i ∧ i ≤ (nn l).length ∧ best.s.size < 4611686018427387904 ∧ (op = 20 → Low ((nn l).take i) best) ∧ (op = 21 → High ((nn l).take i) best) ∧ H = .box [.int .i64 0, .int .i64 0, .str ByteArray.empty] :: (junk ++ [.box [.int .i64 best.k, .int .i64 best.i, .str best.s]])) 0 ?_ ?_
  · exact ⟨zv, by simp [h0, h4, hg, zv], by simp [h0, h4, hg, zv], by simp [h0, h4, hg, zv], by simp [h0, h4, hg, zv], by simp [h0, h4, hg, zv], by omega, by show 0 < _; omega, fun _ => .inl ⟨fun v h => (by cases h), rfl⟩, fun _ => .inl ⟨fun v h => (by cases h), rfl⟩, by simp [zv]⟩
  clear h0 h1 h4 h7 hg e
  rintro i e H ⟨best, h0, h4, h6, h8, h9, hle, hbs, hlo, hhi, rfl⟩
  by_cases h : i < (nn l).length
  · have hmem := mem_nn.1 (List.getElem_mem h)
    have en := take_next h
    have t1 := Tells.one (nn l)[i]
    unfold oneS at t1
    rw [if_neg hmem.2] at t1
    have zA : (∀ v, v ∈ (nn l).take i → v.k = 0) ↔ i = 0 := by
      constructor
      · intro hh
        rcases Nat.eq_zero_or_pos i with h0 | h0
        · exact h0
        · exfalso
          have hm : (nn l)[0] ∈ (nn l).take i := by
            rw [List.mem_iff_getElem]
            exact ⟨0, by simp; omega, by simp⟩
          exact (mem_nn.1 (List.mem_of_mem_take hm)).2 (hh _ hm)
      · rintro rfl v hv
        simp at hv
    have hvs := hs _ hmem.1
    generalize hX : (nn l)[i] = X at *
    have nb : ¬ ∀ w, w ∈ [X] → w.k = 0 := by simp [hmem.2]
    have nlo : op = 20 → Low ((nn l).take (i + 1)) (if decide (i = 0 ∨ order X best < 0) = true then X else best) := fun h20 => by
      rw [en]
      exact Low.join (decide (i = 0 ∨ order X best < 0)) (hlo h20) t1.lo (by rw [zA]; simp [hmem.2])
    have nhi : op = 21 → High ((nn l).take (i + 1)) (if decide (i = 0 ∨ 0 < order X best) = true then X else best) := fun h20 => by
      rw [en]
      exact High.join (decide (i = 0 ∨ 0 < order X best)) (hhi h20) t1.hi (by rw [zA]; simp [hmem.2])
    have ew := wrap_next h (by omega)
    simp [h0, h4, h6, h8, h9, h, hX]
    refine TDK.call' (T_rorder X best hvs) (by simp) ?_
    simp [h0, h4, h6, h8, h9, h, hX]
    repeat (refine ⟨by grind, ?_⟩)
    refine condK_of (fun hc => ?_) (fun hc => ?_)
    · simp [h0, h4, h6, h8, h9, h, hX]
      refine ⟨i + 1, by omega, ew, by omega, X, hvs, fun h20 => ?_, fun h21 => ?_, by simp⟩
      · have := nlo h20
        simp [h20] at hc
        rwa [if_pos (by simpa using hc)] at this
      · have := nhi h21
        simp [h21] at hc
        rwa [if_pos (by simpa using hc)] at this
    · simp [h0, h4, h6, h8, h9, h, hX]
      refine ⟨i + 1, by omega, ew, by omega, best, hbs, fun h20 => ?_, fun h21 => ?_, by simp⟩
      · have := nlo h20
        simp [h20] at hc
        rwa [if_neg (by simpa using hc)] at this
      · have := nhi h21
        simp [h21] at hc
        rwa [if_neg (by simpa using hc)] at this
  · have : i = (nn l).length := by omega
    subst this
    rw [List.take_length] at *
    simp [h0, h4, h6, h8, h9]
    by_cases h20 : op = 20
    · have e : best = A.lo := Low.unique (fun v => Iff.rfl) (hlo h20).nn hF.lo
      simp [resA, hF.op, h20, e]
    · have h21 := q4 h20
      have e : best = A.hi := High.unique (fun v => Iff.rfl) (hhi h21).nn hF.hi
      simp [resA, hF.op, h21, e]
theorem T_code14 (n : Int) : T Try.prog 79 [.int .i64 n] (.int .i64 n) := by
  refine T.intro (TS.body mix Try.func79 (by kernel_rfl) rfl (by kernel_rfl) (by simp) ?_)
  simp
theorem T_live14 : T Try.prog 76 [] (.bool true) := by
  refine T.intro (TS.body mix Try.func76 (by kernel_rfl) rfl (by kernel_rfl) (by simp) ?_)
  simp
  have e1 : resA (feedL (startA 18) [⟨1, 1, ByteArray.empty⟩, ⟨0, 0, ByteArray.empty⟩]) = (iv 1, 0) := by kernel_rfl
  have e2 : resA (feedL (startA 5) []) = (zv, 3) := by kernel_rfl
  have t1 := T_aof 18 [⟨1, 1, ByteArray.empty⟩, ⟨0, 0, ByteArray.empty⟩] (by decide) (by intro v hv; simp at hv; rcases hv with rfl | rfl <;> unfold isI <;> decide)
  have t2 := T_aof 5 [] (by decide) (by intro v hv; cases hv)
  rw [e1] at t1
  rw [e2] at t2
  refine TS.call t1 (by simp) ?_
  simp [iv]
  refine TS.call t2 (by simp) ?_
  simp [zv]
  (first | refine TS.call' (T_code14 0) (by simp) ?_ | refine TDK.call' (T_code14 0) (by simp) ?_ | refine GTK.call (fun _ => ⟨T_code14 0, by simp⟩) ?_ | refine TS.call (T_code14 0) (by simp) ?_ | refine TDK.call (T_code14 0) (by simp) ?_); simp
  (first | refine TS.call' (T_code14 3) (by simp) ?_ | refine TDK.call' (T_code14 3) (by simp) ?_ | refine GTK.call (fun _ => ⟨T_code14 3, by simp⟩) ?_ | refine TS.call (T_code14 3) (by simp) ?_ | refine TDK.call (T_code14 3) (by simp) ?_); simp
theorem T_AggOfs (op : Int) (l : List Val) (hl : l.length < 4611686018427387904) (va : ∀ v, v ∈ l → valIn v) : T Try.prog 13 [.int .i64 op, rowA l] (.bool true) := by
  refine T.intro (TS.body mix Try.func13 (by kernel_rfl) rfl (by kernel_rfl) (by simp) ?_)
  simp
  have hr := reach_lt
  have hM := T_much [l] (by show 1 < _; omega) (fun r hr v hv => by
    simp at hr
    subst hr
    exact (va v hv).2.2)
  refine TS.call hM (by simp) ?_
  simp
  refine condK_of (fun h => ?_) (fun h => ?_)
  · simp
    (first | refine TS.call' (T_live14) (by simp) ?_ | refine TDK.call' (T_live14) (by simp) ?_ | refine GTK.call (fun _ => ⟨T_live14, by simp⟩) ?_ | refine TS.call (T_live14) (by simp) ?_ | refine TDK.call (T_live14) (by simp) ?_); simp
  have hm := much_no h
  have la := (hm.2 l (by simp)).1
  have hI : ∀ v, v ∈ l → isI v.i := fun v hv => (va v hv).2.1
  have hs : ∀ v, v ∈ l → v.s.size < 4611686018427387904 := fun v hv => by
    have := (va v hv).2.2; omega
  simp
  refine TS.call (T_aof op l (by omega) hI) (by simp) ?_
  simp
  refine TS.call (T_rof14 op l (by omega) hI hs) (by simp) ?_
  generalize resA (feedL (startA op) l) = R
  simp
  refine GTK.call (fun _ => ⟨T_code14 R.2, by simp⟩) ?_
  simp
  refine GTK.call (fun _ => ⟨T_live14, by simp⟩) ?_
  simp
theorem S_AggOfs {xs : List AV} (h : ShA Try.prog [3, 42] xs) : T Try.prog 13 xs (.bool true) := by
  obtain ⟨u, r, rfl, h0, h⟩ := h.cons_of ag_3
  obtain ⟨y, r, rfl, h1, h⟩ := h.cons_of ag_42
  obtain rfl := h.nil_of
  obtain ⟨op, rfl, _⟩ := h0.int_of un_3
  obtain ⟨a, rfl, va, ha⟩ := vals_in h1
  exact T_AggOfs op a ha va
end Go.Proofs.Ytgmhmdmfnmlhmab.PL
