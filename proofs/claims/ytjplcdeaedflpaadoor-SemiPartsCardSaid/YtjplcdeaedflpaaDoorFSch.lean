/- What the functions of tables tell. -/
import Derived.Test.YtjplcdeaedflpaaDoorFMuch
import Derived.Test.YtjplcdeaedflpaaDoorFName
namespace Go.Proofs.YtjplcdeaedflpaaDoor.PL
open Go.Proofs
set_option linter.unusedVariables false
set_option linter.unusedSimpArgs false
structure Col where
  name : ByteArray
  kind : Int
abbrev Col.av (c : Col) : AV := .agg [.str c.name, .int .i64 c.kind]
instance : Sized Col.av 2 := ⟨fun _ => rfl⟩
instance : Plain Col.av := ⟨fun _ => rfl⟩
structure Tab where
  name : ByteArray
  cols : List Col
  rows : List (List Val)
abbrev Tab.cs (t : Tab) : List AV := [.str t.name, .sl .no (avs Col.av t.cols), .sl .no (rows' t.rows)]
abbrev Tab.av (t : Tab) : AV := .agg t.cs
instance : Sized Tab.av 3 := ⟨fun _ => rfl⟩
instance : Plain Tab.av := ⟨fun _ => by simp⟩
/-- a map of the names seen -/
def strM (l : List ByteArray) : List (AV × AV) := l.map fun s => (.str s, .int .i64 1)
instance : LawfulBEq ByteArray where
  eq_of_beq {a b} h := by rw [bytes_beq] at h; simpa using h
  rfl {a} := by rw [bytes_beq]; simp
theorem findK_cons {k s : ByteArray} {l : List ByteArray} {i : Nat} : findK (.str k) (strM (s :: l)) i = if kEq (.str k) (.str s) = true then some (i, .int .i64 1) else findK (.str k) (strM l) (i + 1) := rfl
theorem findK_no {k : ByteArray} : ∀ {l : List ByteArray} {i : Nat}, k ∉ l → findK (.str k) (strM l) i = none
  | [], _, _ => rfl
  | s :: l, i, h => by
    have h1 : ¬ k = s := fun e => h (by rw [e]; exact List.mem_cons_self ..)
    have h2 := findK_no (k := k) (l := l) (i := i + 1) fun e => h (List.mem_cons_of_mem _ e)
    rw [findK_cons, if_neg (by simp [kEq, h1])]
    exact h2
theorem findK_yes {k : ByteArray} : ∀ {l : List ByteArray} {i : Nat}, k ∈ l → ∃ j, findK (.str k) (strM l) i = some (j, .int .i64 1)
  | [], _, h => by cases h
  | s :: l, i, h => by
    by_cases h1 : k = s
    · exact ⟨i, by simp [findK_cons, kEq, h1]⟩
    · obtain ⟨j, hj⟩ := findK_yes (k := k) (l := l) (i := i + 1) ((List.mem_cons.1 h).resolve_left h1)
      exact ⟨j, by rw [findK_cons, if_neg (by simp [kEq, h1])]; exact hj⟩
theorem found_strM {k : ByteArray} {l : List ByteArray} : foundV (.int .i64 0) false (findK (.str k) (strM l) 0) = .int .i64 (if k ∈ l then 1 else 0) := by
  by_cases h : k ∈ l
  · obtain ⟨j, hj⟩ := findK_yes (i := 0) h
    rw [hj, if_pos h]; rfl
  · rw [findK_no h, if_neg h]; rfl
theorem putK_no {k : ByteArray} {l : List ByteArray} (h : k ∉ l) : putK (.str k) (.int .i64 1) (strM l) = strM (l ++ [k]) := by
  unfold putK
  rw [findK_no h]
  simp [strM]
theorem keys_strM {k : ByteArray} {l : List ByteArray} : keysT Tryd.prog 9 (.str k) (strM l) = True := eq_true ⟨un_9, fun e he => by
  obtain ⟨s, _, rfl⟩ := List.mem_map.1 he
  exact ⟨un_9, trivial⟩⟩
def colsV : List ByteArray → List Col → Int
  | _, [] => 0
  | seen, c :: cs => if nameB c.name.toList = false ∨ c.name ∈ seen then 2 else if c.kind ≠ 1 ∧ c.kind ≠ 2 then 3 else colsV (seen ++ [c.name]) cs
theorem names_next {cols : List Col} {i : Nat} (h : i < cols.length) : (cols.map (·.name)).take (i + 1) = (cols.map (·.name)).take i ++ [cols[i].name] := by
  have := take_next (l := cols.map (·.name)) (i := i) (by simpa using h)
  simpa using this


def fitsB (v : Val) (k : Int) : Bool := rightV v && (decide (v.k = 0) || decide (v.k = k))

def rowL : List Val → List Col → Bool
  | [], [] => true
  | v :: r, c :: cs => fitsB v c.kind && rowL r cs
  | _, _ => false
theorem rowL_len : ∀ {r : List Val} {cs : List Col}, rowL r cs = true → r.length = cs.length
  | [], [], _ => rfl
  | v :: r, c :: cs, h => by simp [rowL] at h; simp [rowL_len h.2]
  | [], _ :: _, h => by simp [rowL] at h
  | _ :: _, [], h => by simp [rowL] at h
theorem rowL_step {r : List Val} {cs : List Col} {i : Nat} (h1 : i < r.length) (h2 : i < cs.length) : rowL (r.drop i) (cs.drop i) = (fitsB r[i] cs[i].kind && rowL (r.drop (i + 1)) (cs.drop (i + 1))) := by
  rw [List.drop_eq_getElem_cons h1, List.drop_eq_getElem_cons h2, rowL]

def findT : List Tab → ByteArray → Option Tab
  | [], _ => none
  | t :: ts, n => if t.name = n then some t else findT ts n
def noTab : Tab := ⟨ByteArray.empty, [], []⟩
def tabO (o : Option Tab) : AV := match o with | some t => t.av | none => .agg [.str ByteArray.empty, .sl .exact [], .sl .exact []]
theorem findT_some : ∀ {ts : List Tab} {n : ByteArray}, (findT ts n).isSome = decide (n ∈ ts.map (·.name))
  | [], _ => rfl
  | t :: ts, n => by
    by_cases h : t.name = n
    · simp [findT, h]
    · have h' : ¬ n = t.name := fun e => h e.symm
      simp [findT, h, h', findT_some (ts := ts)]

def checkL : List ByteArray → List Tab → Int
  | _, [] => 0
  | seen, t :: ts =>
    if nameB t.name.toList = false ∨ t.name ∈ seen then 2
    else if t.cols.length < 1 ∨ 16 < t.cols.length ∨ 65536 < t.rows.length then 4
    else if colsV [] t.cols ≠ 0 then colsV [] t.cols
    else if t.rows.all (fun r => rowL r t.cols) = false then 3
    else checkL (seen ++ [t.name]) ts
def checkV (ts : List Tab) : Int := if 16 < ts.length then 4 else checkL [] ts
structure TabOk (t : Tab) : Prop where
  name : t.name.size ≤ 100
  cname : ∀ c, c ∈ t.cols → c.name.size ≤ 100
  cols : t.cols.length < 4611686018427387904
  rows : t.rows.length < 4611686018427387904
  row : ∀ r, r ∈ t.rows → r.length < 4611686018427387904
theorem tnames_next {ts : List Tab} {i : Nat} (h : i < ts.length) : (ts.map (·.name)).take (i + 1) = (ts.map (·.name)).take i ++ [ts[i].name] := by
  have := take_next (l := ts.map (·.name)) (i := i) (by simpa using h)
  simpa using this

end Go.Proofs.YtjplcdeaedflpaaDoor.PL
