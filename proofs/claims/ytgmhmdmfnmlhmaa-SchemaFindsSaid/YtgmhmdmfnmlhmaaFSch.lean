/- What the functions of tables tell. -/
import Derived.Test.YtgmhmdmfnmlhmaaFMuch
import Derived.Test.YtgmhmdmfnmlhmaaFName
namespace Go.Proofs.Ytgmhmdmfnmlhmaa.PL
open Go.Proofs
set_option linter.unusedVariables false
set_option linter.unusedSimpArgs false
structure Col where
  name : ByteArray
  kind : Int
abbrev Col.av (c : Col) : AV := .agg [.str c.name, .int .i64 c.kind]
instance : Sized Col.av 2 := ⟨fun _ => rfl⟩
instance : Plain Col.av := ⟨fun _ => rfl⟩
structure Tab where
  name : ByteArray
  cols : List Col
  rows : List (List Val)
abbrev Tab.cs (t : Tab) : List AV := [.str t.name, .sl .no (avs Col.av t.cols), .sl .no (rows' t.rows)]
abbrev Tab.av (t : Tab) : AV := .agg t.cs
instance : Sized Tab.av 3 := ⟨fun _ => rfl⟩
instance : Plain Tab.av := ⟨fun _ => by simp⟩
/-- a map of the names seen -/
def strM (l : List ByteArray) : List (AV × AV) := l.map fun s => (.str s, .int .i64 1)
instance : LawfulBEq ByteArray where
  eq_of_beq {a b} h := by rw [bytes_beq] at h; simpa using h
  rfl {a} := by rw [bytes_beq]; simp
theorem findK_cons {k s : ByteArray} {l : List ByteArray} {i : Nat} : findK (.str k) (strM (s :: l)) i = if kEq (.str k) (.str s) = true then some (i, .int .i64 1) else findK (.str k) (strM l) (i + 1) := rfl
theorem findK_no {k : ByteArray} : ∀ {l : List ByteArray} {i : Nat}, k ∉ l → findK (.str k) (strM l) i = none
  | [], _, _ => rfl
  | s :: l, i, h => by
    have h1 : ¬ k = s := fun e => h (by rw [e]; exact List.mem_cons_self ..)
    have h2 := findK_no (k := k) (l := l) (i := i + 1) fun e => h (List.mem_cons_of_mem _ e)
    rw [findK_cons, if_neg (by simp [kEq, h1])]
    exact h2
theorem findK_yes {k : ByteArray} : ∀ {l : List ByteArray} {i : Nat}, k ∈ l → ∃ j, findK (.str k) (strM l) i = some (j, .int .i64 1)
  | [], _, h => by cases h
  | s :: l, i, h => by
    by_cases h1 : k = s
    · exact ⟨i, by simp [findK_cons, kEq, h1]⟩
    · obtain ⟨j, hj⟩ := findK_yes (k := k) (l := l) (i := i + 1) ((List.mem_cons.1 h).resolve_left h1)
      exact ⟨j, by rw [findK_cons, if_neg (by simp [kEq, h1])]; exact hj⟩
theorem found_strM {k : ByteArray} {l : List ByteArray} : foundV (.int .i64 0) false (findK (.str k) (strM l) 0) = .int .i64 (if k ∈ l then 1 else 0) := by
  by_cases h : k ∈ l
  · obtain ⟨j, hj⟩ := findK_yes (i := 0) h
    rw [hj, if_pos h]; rfl
  · rw [findK_no h, if_neg h]; rfl
theorem putK_no {k : ByteArray} {l : List ByteArray} (h : k ∉ l) : putK (.str k) (.int .i64 1) (strM l) = strM (l ++ [k]) := by
  unfold putK
  rw [findK_no h]
  simp [strM]
theorem keys_strM {k : ByteArray} {l : List ByteArray} : keysT Try.prog 9 (.str k) (strM l) = True := eq_true ⟨un_9, fun e he => by
  obtain ⟨s, _, rfl⟩ := List.mem_map.1 he
  exact un_9⟩
def colsV : List ByteArray → List Col → Int
  | _, [] => 0
  | seen, c :: cs => if nameB c.name.toList = false ∨ c.name ∈ seen then 2 else if c.kind ≠ 1 ∧ c.kind ≠ 2 then 3 else colsV (seen ++ [c.name]) cs
theorem names_next {cols : List Col} {i : Nat} (h : i < cols.length) : (cols.map (·.name)).take (i + 1) = (cols.map (·.name)).take i ++ [cols[i].name] := by
  have := take_next (l := cols.map (·.name)) (i := i) (by simpa using h)
  simpa using this
theorem T_columns (t : Tab) (hl : t.cols.length < 4611686018427387904) (hn : ∀ c, c ∈ t.cols → c.name.size ≤ 100) : T Try.prog 106 [t.av] (.int .i64 (colsV [] t.cols)) := by
  have hN := @names_next t.cols
  generalize t.cols.map (·.name) = N at hN
  refine T.intro (TS.body mix Try.func106 (by kernel_rfl) rfl (by kernel_rfl) (by simp) ?_)
  simp
  refine vc_loop (fun i : Nat => t.cols.length - i) (fun i e H => ∃ junk, e 3 = .map 1 ∧ e 8 = .sl .no (avs Col.av t.cols) ∧ e 9 = .int .i64 t.cols.length ∧ e 10 = .int .i64 i ∧ i ≤ t.cols.length ∧ colsV [] t.cols = colsV (N.take i) (t.cols.drop i) ∧ H = .box t.cs :: .mp (strM (N.take i)) (some 0) :: junk) 0 ?_ ?_
  · exact ⟨[], by simp [strM]⟩
  rintro i e H ⟨junk, h3, h8, h9, h10, hi, hc, rfl⟩
  by_cases h : i < t.cols.length
  · have hd : t.cols.drop i = t.cols[i] :: t.cols.drop (i + 1) := List.drop_eq_getElem_cons h
    have et := hN h
    have hs := hn _ (List.getElem_mem h)
    have ew := wrap_next h (by omega)
    rw [hd, colsV] at hc
    generalize hS : N.take i = seen at *
    generalize hX : t.cols[i] = c at *
    simp [h3, h8, h9, h10, h, hX]
    refine TS.call' (T_name c.name hs) (by simp) ?_
    cases hb : nameB c.name.toList with
    | false =>
      simp [h3, h8, h9, h10, h, hX, hb, hc]
    | true =>
      by_cases hm : c.name ∈ seen
      · simp [h3, h8, h9, h10, h, hX, hb, hm, hc, keys_strM, found_strM, -foundV]
      · rw [if_neg (by simp [hb, hm])] at hc
        simp [h3, h8, h9, h10, h, hX, hb, hm, keys_strM, found_strM, -foundV, putK_no]
        refine condK_of (fun h1 => ?_) (fun h1 => ?_)
        · simp at h1
          simp [hc, h1]
        · simp at h1
          rw [if_neg (by grind)] at hc
          simp [h3, h8, h9, h10, h, hX]
          exact ⟨i + 1, by omega, ew, by omega, by rw [et]; exact hc, by rw [et]⟩
  · have : i = t.cols.length := by omega
    subst this
    rw [List.drop_length] at hc
    simp [h3, h8, h9, h10, hc, colsV]
theorem T_rcols (cols : List Col) (hl : cols.length < 4611686018427387904) (hn : ∀ c, c ∈ cols → c.name.size ≤ 100) : T Try.prog 104 [.sl .no (avs Col.av cols)] (.int .i64 (colsV [] cols)) := by
  have hN := @names_next cols
  have hN1 : ∀ i (h : i < cols.length) j, i < j → cols[i].name ∈ (cols.map (·.name)).take j := fun i h j hj => by
    rw [List.mem_iff_getElem]
    exact ⟨i, by simp; omega, by simp⟩
  generalize cols.map (·.name) = N at hN hN1
  refine T.intro (TS.body mix Try.func104 (by kernel_rfl) rfl (by kernel_rfl) (by simp) ?_)
  simp
  refine vc_loop (fun i : Nat => cols.length - i) (fun i e H => e 0 = .sl .no (avs Col.av cols) ∧ e 3 = .int .i64 i ∧ i ≤ cols.length ∧ colsV [] cols = colsV (N.take i) (cols.drop i)) 0 ?_ ?_
  · simp
  rintro i e H ⟨h0, h3, hi, hc⟩
  by_cases h : i < cols.length
  · have hd : cols.drop i = cols[i] :: cols.drop (i + 1) := List.drop_eq_getElem_cons h
    have et := hN h
    have hs := hn _ (List.getElem_mem h)
    have ew := wrap_next h (by omega)
    rw [hd, colsV] at hc
    generalize hX : cols[i] = c at *
    simp [h0, h3, h, hX]
    refine TS.call' (T_rname c.name hs) (by simp) ?_
    simp [h0, h3, h, hX]
    refine condK_of (fun h1 => ?_) (fun h1 => ?_)
    · simp at h1
      simp [hc, h1]
    simp at h1
    simp [h0, h3, h, hX]
    refine vc_loop (fun j : Nat => i - j) (fun j e H => e 0 = .sl .no (avs Col.av cols) ∧ e 3 = .int .i64 i ∧ e 4 = .int .i64 j ∧ j ≤ i ∧ c.name ∉ N.take j) 0 ?_ ?_
    · simp [h0, h3]
    clear h0 h3 e
    rintro j e H ⟨h0, h3, h4, hj, hno⟩
    by_cases hjl : j < i
    · have hjc : j < cols.length := by omega
      have ej := hN hjc
      have ewj := wrap_next hjc (by omega)
      have hmj := hN1 j hjc i hjl
      simp [h0, h3, h4, hjl, hjc, h, hX]
      refine condK_of (fun h5 => ?_) (fun h5 => ?_)
      · simp at h5
        rw [h5] at hmj
        rw [if_pos (.inr hmj)] at hc
        simp [hc]
      · simp at h5
        simp [h0, h3, h4, hjl, hjc, h, hX]
        refine ⟨j + 1, by omega, ewj, by omega, ?_⟩
        rw [ej]
        intro hm
        rcases List.mem_append.1 hm with hm | hm
        · exact hno hm
        · simp at hm; exact h5 hm.symm
    · have : j = i := by omega
      subst this
      rw [if_neg (by simp [h1, hno])] at hc
      simp [h0, h3, h4, h, hX]
      refine condK_of (fun h6 => ?_) (fun h6 => ?_)
      · simp at h6
        rw [if_pos (by omega)] at hc
        simp [hc]
      · simp at h6
        rw [if_neg (by omega)] at hc
        simp [h0, h3, h4, h, hX]
        exact ⟨j + 1, by omega, ew, by omega, by rw [et]; exact hc⟩
  · have : i = cols.length := by omega
    subst this
    rw [List.drop_length] at hc
    simp [h0, h3, hc, colsV]
def fitsB (v : Val) (k : Int) : Bool := rightV v && (decide (v.k = 0) || decide (v.k = k))
theorem T_fits (v : Val) (k : Int) : T Try.prog 107 [v.av, .int .i64 k] (.bool (fitsB v k)) := by
  refine T.intro (TS.body mix Try.func107 (by kernel_rfl) rfl (by kernel_rfl) (by simp) ?_)
  simp
  (first | refine TS.call' (T_right v) (by simp) ?_ | refine TDK.call' (T_right v) (by simp) ?_ | refine GTK.call (fun _ => ⟨T_right v, by simp⟩) ?_ | refine TS.call (T_right v) (by simp) ?_ | refine TDK.call (T_right v) (by simp) ?_); simp
  refine GTK.call (fun _ => ⟨T_isNull v, by simp⟩) ?_
  simp
  refine ⟨by grind, by grind, rfl⟩
def rowL : List Val → List Col → Bool
  | [], [] => true
  | v :: r, c :: cs => fitsB v c.kind && rowL r cs
  | _, _ => false
theorem rowL_len : ∀ {r : List Val} {cs : List Col}, rowL r cs = true → r.length = cs.length
  | [], [], _ => rfl
  | v :: r, c :: cs, h => by simp [rowL] at h; simp [rowL_len h.2]
  | [], _ :: _, h => by simp [rowL] at h
  | _ :: _, [], h => by simp [rowL] at h
theorem rowL_step {r : List Val} {cs : List Col} {i : Nat} (h1 : i < r.length) (h2 : i < cs.length) : rowL (r.drop i) (cs.drop i) = (fitsB r[i] cs[i].kind && rowL (r.drop (i + 1)) (cs.drop (i + 1))) := by
  rw [List.drop_eq_getElem_cons h1, List.drop_eq_getElem_cons h2, rowL]
theorem T_row (t : Tab) (r : List Val) (hl : r.length < 4611686018427387904) : T Try.prog 105 [t.av, rowA r] (.bool (rowL r t.cols)) := by
  refine T.intro (TS.body mix Try.func105 (by kernel_rfl) rfl (by kernel_rfl) (by simp) ?_)
  simp
  refine condK_of (fun h => ?_) (fun h => ?_)
  · simp at h
    have : rowL r t.cols = false := by
      cases hb : rowL r t.cols with
      | false => rfl
      | true => exact absurd (rowL_len hb) (by omega)
    simp [this]
  simp at h
  have hlen : r.length = t.cols.length := by omega
  simp
  refine vc_loop (fun i : Nat => r.length - i) (fun i e H => e 1 = rowA r ∧ e 2 = .ptr 0 0 ∧ e 5 = .int .i64 i ∧ i ≤ r.length ∧ rowL r t.cols = rowL (r.drop i) (t.cols.drop i) ∧ H = [.box t.cs]) 0 ?_ ?_
  · simp
  rintro i e H ⟨h1, h2, h5, hi, hr, rfl⟩
  by_cases hlt : i < r.length
  · have hlc : i < t.cols.length := by omega
    have ew := wrap_next hlt (by omega)
    rw [rowL_step hlt hlc] at hr
    simp [h1, h2, h5, hlt, hlc]
    refine TDK.call' (T_rright r[i]) (by simp) ?_
    simp [h1, h2, h5, hlt, hlc]
    repeat (refine ⟨by grind, ?_⟩)
    refine condK_of (fun h6 => ?_) (fun h6 => ?_)
    · simp at h6
      have : fitsB r[i] t.cols[i].kind = false := by unfold fitsB; grind
      simp [h1, h2, h5, hlt, hlc, hr, this]
    · simp at h6
      have : fitsB r[i] t.cols[i].kind = true := by unfold fitsB; grind
      rw [this, Bool.true_and] at hr
      simp [h1, h2, h5, hlt, hlc]
      exact ⟨i + 1, by omega, ew, by omega, hr⟩
  · have : i = r.length := by omega
    subst this
    rw [List.drop_length, hlen, List.drop_length] at hr
    simp [h1, h2, h5, hr, rowL]
def findT : List Tab → ByteArray → Option Tab
  | [], _ => none
  | t :: ts, n => if t.name = n then some t else findT ts n
def noTab : Tab := ⟨ByteArray.empty, [], []⟩
def tabO (o : Option Tab) : AV := match o with | some t => t.av | none => .agg [.str ByteArray.empty, .sl .exact [], .sl .exact []]
theorem findT_some : ∀ {ts : List Tab} {n : ByteArray}, (findT ts n).isSome = decide (n ∈ ts.map (·.name))
  | [], _ => rfl
  | t :: ts, n => by
    by_cases h : t.name = n
    · simp [findT, h]
    · have h' : ¬ n = t.name := fun e => h e.symm
      simp [findT, h, h', findT_some (ts := ts)]
theorem T_rfind (ts : List Tab) (n : ByteArray) (hl : ts.length < 4611686018427387904) : T Try.prog 68 [.sl .no (avs Tab.av ts), .str n] (.tup [tabO (findT ts n), .bool (findT ts n).isSome]) := by
  refine T.intro (TS.body mix Try.func68 (by kernel_rfl) rfl (by kernel_rfl) (by simp) ?_)
  simp
  refine vc_loop (fun i : Nat => ts.length - i) (fun i e H => e 0 = .sl .no (avs Tab.av ts) ∧ e 1 = .str n ∧ e 4 = .ptr 0 0 ∧ e 6 = .int .i64 i ∧ i ≤ ts.length ∧ findT ts n = findT (ts.drop i) n ∧ ∃ cs, H = [.box cs] ∧ cs.length = 3) 0 ?_ ?_
  · simp
  rintro i e H ⟨h0, h1, h4, h6, hi, hf, cs, rfl, hcs⟩
  by_cases h : i < ts.length
  · have hd : ts.drop i = ts[i] :: ts.drop (i + 1) := List.drop_eq_getElem_cons h
    have ew := wrap_next h (by omega)
    rw [hd, findT] at hf
    generalize hX : ts[i] = t at *
    simp [h0, h1, h4, h6, h, hX]
    refine condK_of (fun h5 => ?_) (fun h5 => ?_)
    · simp at h5
      rw [if_pos h5] at hf
      simp [h0, h1, h4, h6, h, hX, hf, hcs, tabO]
    · simp at h5
      rw [if_neg h5] at hf
      simp [h0, h1, h4, h6, h, hX]
      exact ⟨i + 1, by omega, ew, by omega, hf, hcs⟩
  · have : i = ts.length := by omega
    subst this
    rw [List.drop_length] at hf
    simp [h0, h1, h4, h6, hf, findT, hcs, tabO]
def checkL : List ByteArray → List Tab → Int
  | _, [] => 0
  | seen, t :: ts =>
    if nameB t.name.toList = false ∨ t.name ∈ seen then 2
    else if t.cols.length < 1 ∨ 16 < t.cols.length ∨ 65536 < t.rows.length then 4
    else if colsV [] t.cols ≠ 0 then colsV [] t.cols
    else if t.rows.all (fun r => rowL r t.cols) = false then 3
    else checkL (seen ++ [t.name]) ts
def checkV (ts : List Tab) : Int := if 16 < ts.length then 4 else checkL [] ts
structure TabOk (t : Tab) : Prop where
  name : t.name.size ≤ 100
  cname : ∀ c, c ∈ t.cols → c.name.size ≤ 100
  cols : t.cols.length < 4611686018427387904
  rows : t.rows.length < 4611686018427387904
  row : ∀ r, r ∈ t.rows → r.length < 4611686018427387904
theorem tnames_next {ts : List Tab} {i : Nat} (h : i < ts.length) : (ts.map (·.name)).take (i + 1) = (ts.map (·.name)).take i ++ [ts[i].name] := by
  have := take_next (l := ts.map (·.name)) (i := i) (by simpa using h)
  simpa using this
theorem T_check (ts : List Tab) (hl : ts.length < 4611686018427387904) (ok : ∀ t, t ∈ ts → TabOk t) : T Try.prog 79 [.sl .no (avs Tab.av ts)] (.int .i64 (checkV ts)) := by
  have hN := @tnames_next ts
  generalize ts.map (·.name) = N at hN
  refine T.intro (TS.body mix Try.func79 (by kernel_rfl) rfl (by kernel_rfl) (by simp) ?_)
  simp
  refine condK_of (fun h => ?_) (fun h => ?_)
  · simp at h
    rw [show checkV ts = 4 from if_pos (by omega)]
    simp
  simp at h
  have hcv : checkV ts = checkL [] ts := if_neg (by omega)
  rw [hcv]
  clear hcv
  simp
  refine vc_loop (fun i : Nat => ts.length - i) (fun i e H => ∃ junk, e 3 = .map 0 ∧ e 15 = .sl .no (avs Tab.av ts) ∧ e 16 = .int .i64 ts.length ∧ e 17 = .int .i64 i ∧ i ≤ ts.length ∧ checkL [] ts = checkL (N.take i) (ts.drop i) ∧ H = .mp (strM (N.take i)) (some 0) :: junk) 0 ?_ ?_
  · exact ⟨[], by simp [strM]⟩
  rintro i e H ⟨junk, h3, h15, h16, h17, hi, hc, rfl⟩
  by_cases hlt : i < ts.length
  · have hd : ts.drop i = ts[i] :: ts.drop (i + 1) := List.drop_eq_getElem_cons hlt
    have et := hN hlt
    have hok := ok _ (List.getElem_mem hlt)
    have ew := wrap_next hlt (by omega)
    rw [hd, checkL] at hc
    generalize hS : N.take i = seen at *
    generalize hX : ts[i] = t at *
    simp [h3, h15, h16, h17, hlt, hX]
    refine TS.call' (T_name t.name hok.name) (by simp) ?_
    cases hb : nameB t.name.toList with
    | false =>
      simp [h3, h15, h16, h17, hlt, hX, hb, hc]
    | true =>
      by_cases hm : t.name ∈ seen
      · simp [h3, h15, h16, h17, hlt, hX, hb, hm, hc, keys_strM, found_strM, -foundV]
      rw [if_neg (by simp [hb, hm])] at hc
      rw [← et] at hc
      simp [h3, h15, h16, h17, hlt, hX, hb, hm, keys_strM, found_strM, -foundV, putK_no]
      rw [← et]
      repeat (refine ⟨by grind, ?_⟩)
      refine condK_of (fun q1 => ?_) (fun q1 => ?_)
      · simp at q1
        rw [if_pos (by omega)] at hc
        simp [hc]
      simp at q1
      rw [if_neg (by omega)] at hc
      simp [h3, h15, h16, h17]
      refine TS.call' (T_columns t hok.cols hok.cname) (by simp) ?_
      simp [h3, h15, h16, h17]
      refine condK_of (fun q2 => ?_) (fun q2 => ?_)
      · simp at q2
        rw [if_pos q2] at hc
        simp [hc]
      simp at q2
      rw [if_neg (by simp [q2])] at hc
      simp [h3, h15, h16, h17]
      refine condK_of (fun q3 => ?_) (fun q3 => ?_)
      · simp at q3
        rw [q3, List.all_nil, if_neg (by simp)] at hc
        simp [h3, h15, h16, h17]
        exact ⟨i + 1, by omega, ew, by omega, hc, rfl⟩
      simp at q3
      simp [h3, h15, h16, h17]
      refine vc_loop (fun j : Nat => t.rows.length - j) (fun j e H => ∃ junk2, e 3 = .map 0 ∧ e 5 = .ptr (junk.length + 1) 0 ∧ e 15 = .sl .no (avs Tab.av ts) ∧ e 16 = .int .i64 ts.length ∧ e 17 = .int .i64 i ∧ e 61 = .sl .no (rows' t.rows) ∧ e 62 = .int .i64 t.rows.length ∧ e 63 = .int .i64 j ∧ j ≤ t.rows.length ∧ t.rows.all (fun r => rowL r t.cols) = (t.rows.drop j).all (fun r => rowL r t.cols) ∧ H = .mp (strM (N.take (i + 1))) (some 0) :: (junk ++ .box t.cs :: junk2)) 0 ?_ ?_
      · exact ⟨[], by simp [h3, h15, h16, h17]⟩
      clear h3 h15 h16 h17 e
      rintro j e H ⟨junk2, h3, h5, h15, h16, h17, h61, h62, h63, hj, hall, rfl⟩
      by_cases hjl : j < t.rows.length
      · have hdj : t.rows.drop j = t.rows[j] :: t.rows.drop (j + 1) := List.drop_eq_getElem_cons hjl
        have hrl := hok.row _ (List.getElem_mem hjl)
        have hrr := hok.rows
        have ewj := wrap_next hjl (by omega)
        rw [hdj, List.all_cons] at hall
        generalize hR : t.rows[j] = r at *
        simp [h3, h5, h15, h16, h17, h61, h62, h63, hjl, hR]
        refine condK_of (fun q4 => ?_) (fun q4 => ?_)
        · simp at q4
          have hb : rowL r t.cols = false := by
            cases hb : rowL r t.cols with
            | false => rfl
            | true => exact absurd (rowL_len hb) (by omega)
          rw [hall, hb, Bool.false_and, if_pos rfl] at hc
          simp [hc]
        simp at q4
        have hlen : r.length = t.cols.length := by omega
        simp [h3, h5, h15, h16, h17, h61, h62, h63, hjl, hR]
        refine vc_loop (fun k : Nat => r.length - k) (fun k e H => ∃ junk2, e 3 = .map 0 ∧ e 5 = .ptr (junk.length + 1) 0 ∧ e 15 = .sl .no (avs Tab.av ts) ∧ e 16 = .int .i64 ts.length ∧ e 17 = .int .i64 i ∧ e 61 = .sl .no (rows' t.rows) ∧ e 62 = .int .i64 t.rows.length ∧ e 63 = .int .i64 j ∧ e 73 = rowA r ∧ e 74 = .int .i64 r.length ∧ e 75 = .int .i64 k ∧ k ≤ r.length ∧ rowL r t.cols = rowL (r.drop k) (t.cols.drop k) ∧ H = .mp (strM (N.take (i + 1))) (some 0) :: (junk ++ .box t.cs :: junk2)) 0 ?_ ?_
        · exact ⟨junk2, by simp [h3, h5, h15, h16, h17, h61, h62, h63]⟩
        clear h3 h5 h15 h16 h17 h61 h62 h63 e
        rintro k e H ⟨junk2, h3, h5, h15, h16, h17, h61, h62, h63, h73, h74, h75, hk, hrow, rfl⟩
        by_cases hkl : k < r.length
        · have hkc : k < t.cols.length := by omega
          have ewk := wrap_next hkl (by omega)
          rw [rowL_step hkl hkc] at hrow
          simp [h3, h5, h15, h16, h17, h61, h62, h63, h73, h74, h75, hkl, hkc]
          refine TDK.call' (T_fits r[k] t.cols[k].kind) (by simp) ?_
          simp [h3, h5, h15, h16, h17, h61, h62, h63, h73, h74, h75, hkl, hkc]
          refine condK_of (fun q5 => ?_) (fun q5 => ?_)
          · simp at q5
            rw [hall, hrow, q5, Bool.false_and, Bool.false_and, if_pos rfl] at hc
            simp [hc]
          · simp at q5
            rw [q5, Bool.true_and] at hrow
            simp [h3, h5, h15, h16, h17, h61, h62, h63, h73, h74, h75, hkl, hkc]
            exact ⟨k + 1, by omega, ewk, by omega, hrow⟩
        · have : k = r.length := by omega
          subst this
          rw [List.drop_length, hlen, List.drop_length] at hrow
          rw [hrow, rowL, Bool.true_and] at hall
          simp [h3, h5, h15, h16, h17, h61, h62, h63, h73, h74, h75]
          exact ⟨j + 1, by omega, ewj, by omega, hall⟩
      · have : j = t.rows.length := by omega
        subst this
        rw [List.drop_length, List.all_nil] at hall
        rw [hall, if_neg (by simp)] at hc
        simp [h3, h5, h15, h16, h17, h61, h62, h63]
        exact ⟨i + 1, by omega, ew, by omega, hc, rfl⟩
  · have : i = ts.length := by omega
    subst this
    rw [List.drop_length] at hc
    simp [h3, h15, h16, h17, hc, checkL]
end Go.Proofs.Ytgmhmdmfnmlhmaa.PL
