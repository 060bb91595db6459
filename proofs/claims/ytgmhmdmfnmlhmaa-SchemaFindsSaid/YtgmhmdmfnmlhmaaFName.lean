/- What the functions of names and words tell. -/
import Derived.Test.YtgmhmdmfnmlhmaaFVal
namespace Go.Proofs.Ytgmhmdmfnmlhmaa.PL
open Go.Proofs
set_option linter.unusedVariables false
set_option linter.unusedSimpArgs false
def words : List (List UInt8) := [[115, 101, 108, 101, 99, 116], [102, 114, 111, 109], [106, 111, 105, 110], [108, 101, 102, 116], [115, 101, 109, 105], [97, 110, 116, 105], [111, 110], [119, 104, 101, 114, 101], [103, 114, 111, 117, 112], [98, 121], [97, 115], [97, 110, 100], [111, 114], [110, 111, 116], [105, 115], [110, 117, 108, 108], [99, 111, 117, 110, 116], [115, 117, 109], [109, 105, 110], [109, 97, 120]]
def wordB (l : List UInt8) : Bool := decide (l ∈ words)
set_option maxRecDepth 100000 in
set_option maxHeartbeats 4000000 in
theorem T_word (s : ByteArray) : T Try.prog 18 [.str s] (.bool (wordB s.toList)) := by
  refine T.intro (TS.body mix Try.func18 (by kernel_rfl) rfl (by kernel_rfl) (by simp) ?_)
  simp
  refine condK_of (fun h0 => ?_) (fun h0 => ?_)
  · simp at h0; simp [h0, wordB, words]
  simp at h0; simp
  refine condK_of (fun h1 => ?_) (fun h1 => ?_)
  · simp at h1; simp [h1, wordB, words]
  simp at h1; simp
  refine condK_of (fun h2 => ?_) (fun h2 => ?_)
  · simp at h2; simp [h2, wordB, words]
  simp at h2; simp
  refine condK_of (fun h3 => ?_) (fun h3 => ?_)
  · simp at h3; simp [h3, wordB, words]
  simp at h3; simp
  refine condK_of (fun h4 => ?_) (fun h4 => ?_)
  · simp at h4; simp [h4, wordB, words]
  simp at h4; simp
  refine condK_of (fun h5 => ?_) (fun h5 => ?_)
  · simp at h5; simp [h5, wordB, words]
  simp at h5; simp
  refine condK_of (fun h6 => ?_) (fun h6 => ?_)
  · simp at h6; simp [h6, wordB, words]
  simp at h6; simp
  refine condK_of (fun h7 => ?_) (fun h7 => ?_)
  · simp at h7; simp [h7, wordB, words]
  simp at h7; simp
  refine condK_of (fun h8 => ?_) (fun h8 => ?_)
  · simp at h8; simp [h8, wordB, words]
  simp at h8; simp
  refine condK_of (fun h9 => ?_) (fun h9 => ?_)
  · simp at h9; simp [h9, wordB, words]
  simp at h9; simp
  refine condK_of (fun h10 => ?_) (fun h10 => ?_)
  · simp at h10; simp [h10, wordB, words]
  simp at h10; simp [h10]
  refine condK_of (fun h11 => ?_) (fun h11 => ?_)
  · simp at h11; simp [h11, wordB, words]
  simp at h11; simp
  refine condK_of (fun h12 => ?_) (fun h12 => ?_)
  · simp at h12; simp [h12, wordB, words]
  simp at h12; simp
  refine condK_of (fun h13 => ?_) (fun h13 => ?_)
  · simp at h13; simp [h13, wordB, words]
  simp at h13; simp
  refine condK_of (fun h14 => ?_) (fun h14 => ?_)
  · simp at h14; simp [h14, wordB, words]
  simp at h14; simp
  refine condK_of (fun h15 => ?_) (fun h15 => ?_)
  · simp at h15; simp [h15, wordB, words]
  simp at h15; simp
  refine condK_of (fun h16 => ?_) (fun h16 => ?_)
  · simp at h16; simp [h16, wordB, words]
  simp at h16; simp
  refine condK_of (fun h17 => ?_) (fun h17 => ?_)
  · simp at h17; simp [h17, wordB, words]
  simp at h17; simp
  refine condK_of (fun h18 => ?_) (fun h18 => ?_)
  · simp at h18; simp [h18, wordB, words]
  simp at h18; simp
  refine condK_of (fun h19 => ?_) (fun h19 => ?_)
  · simp at h19; simp [h19, wordB, words]
  simp at h19; simp [h19]
  simp [h0, h1, h2, h3, h4, h5, h6, h7, h8, h9, h10, h11, h12, h13, h14, h15, h16, h17, h18, h19, wordB, words]
set_option maxRecDepth 100000 in
theorem T_rword (s : ByteArray) : T Try.prog 19 [.str s] (.bool (wordB s.toList)) := by
  refine T.intro (TS.body mix Try.func19 (by kernel_rfl) rfl (by kernel_rfl) (by simp) ?_)
  simp
  refine vc_loop (fun i : Nat => 20 - i) (fun i e H => e 0 = .str s ∧ e 3 = .sl .exact (words.map fun l => .str ⟨l.toArray⟩) ∧ e 4 = .int .i64 i ∧ i ≤ 20 ∧ wordB s.toList = decide (s.toList ∈ words.drop i)) 0 ?_ ?_
  · simp [words, wordB]
  rintro i e H ⟨h0, h3, h4, hi, hw⟩
  have hl : words.length = 20 := rfl
  by_cases h : i < 20
  · have h' : i < words.length := by omega
    have ed : words.drop i = _ := List.drop_eq_getElem_cons h'
    have hc : (i : Int) < 20 := by omega
    simp [h0, h3, h4, h', hl, h, hc]
    refine condK_of (fun h2 => ?_) (fun h2 => ?_)
    · simp at h2
      simp
      rw [hw, ed, h2]; simp
    · simp at h2
      simp [h0, h3, h4]
      refine ⟨i + 1, by omega, by rw [wrap_i64 (by omega) (by omega)]; simp, by omega, ?_⟩
      have h3 : ¬ s.toList = words[i] := fun x => h2 x.symm
      rw [hw, ed]; simp only [List.mem_cons, h3, false_or]
  · have : i = 20 := by omega
    subst this
    simp [h0, h3, h4, hl]
    rw [hw]; simp [words]
    done
def okc (c : UInt8) : Bool := (decide (97 ≤ c.toNat) && decide (c.toNat ≤ 122)) || (decide (48 ≤ c.toNat) && decide (c.toNat ≤ 57)) || decide (c.toNat = 95)
def nameB (l : List UInt8) : Bool := match l with | [] => false | c :: _ => decide (l.length ≤ 32) && !wordB l && !(decide (48 ≤ c.toNat) && decide (c.toNat ≤ 57)) && l.all okc
theorem byte0 {s : ByteArray} {c : UInt8} {l : List UInt8} (h : s.toList = c :: l) : byteAt s 0 = (c.toNat : Int) := by
  have := byteAt_get (a := s) (i := 0) (by rw [h]; simp)
  simpa [h] using this
theorem T_name (s : ByteArray) (hs : s.size ≤ 100) : T Try.prog 16 [.str s] (.bool (nameB s.toList)) := by
  have he : s = ByteArray.empty ↔ s.size = 0 := by rw [ByteArray.size_eq_zero_iff]
  have hl := toList_length s
  refine T.intro (TS.body mix Try.func16 (by kernel_rfl) rfl (by kernel_rfl) (by simp) ?_)
  simp
  refine ⟨by grind, ?_⟩
  (first | refine TS.call' (T_word s) (by simp) ?_ | refine TDK.call' (T_word s) (by simp) ?_ | refine GTK.call (fun _ => ⟨T_word s, by simp⟩) ?_ | refine TS.call (T_word s) (by simp) ?_ | refine TDK.call (T_word s) (by simp) ?_); simp
  refine ⟨by grind, by grind, by grind, by grind, by grind, by grind, condK_of (fun h => ?_) (fun h => ?_)⟩
  · simp
    cases hc : s.toList with
    | nil => rfl
    | cons c l =>
      rw [byte0 hc] at h
      have hn : ¬ s = ByteArray.empty := by rw [he, ← hl, hc]; simp
      simp only [nameB]
      rw [← hc, hl]
      simp [hn] at h
      grind
  simp
  have hq : nameB s.toList = s.toList.all okc := by
    cases hc : s.toList with
    | nil => simp [hc] at hl; simp [he, ← hl] at h
    | cons c l =>
      rw [byte0 hc] at h
      simp only [nameB]
      rw [← hc, hl]
      simp at h
      grind
  refine vc_loop (fun i : Nat => s.size - i) (fun i e H => e 0 = .str s ∧ e 27 = .int .i64 s.size ∧ e 28 = .int .i64 i ∧ i ≤ s.size ∧ nameB s.toList = (s.toList.drop i).all okc) 0 ?_ ?_
  · simp [hq]
  rintro i e H ⟨h0, h1, h2, hi, hw⟩
  by_cases hlt : i < s.size
  · have h' : i < s.toList.length := by omega
    have ed : s.toList.drop i = _ := List.drop_eq_getElem_cons h'
    have hok : okc s.toList[i] = ((decide (97 ≤ s.toList[i].toNat) && decide (s.toList[i].toNat ≤ 122)) || (decide (48 ≤ s.toList[i].toNat) && decide (s.toList[i].toNat ≤ 57)) || decide (s.toList[i].toNat = 95)) := rfl
    simp [h0, h1, h2, hlt, byteAt_get h']
    repeat (refine ⟨by grind, ?_⟩)
    refine condK_of (fun h3 => ?_) (fun h3 => ?_)
    · simp
      have : okc s.toList[i] = false := by rw [hok]; simp at h3; grind
      rw [hw, ed, List.all_cons, this]; rfl
    · simp [h0, h1, h2]
      refine ⟨i + 1, by omega, by rw [wrap_i64 (by omega) (by omega)]; simp, by omega, ?_⟩
      have : okc s.toList[i] = true := by rw [hok]; simp at h3; grind
      rw [hw, ed, List.all_cons, this]; rfl
  · have e1 : i = s.size := by omega
    subst e1
    simp [h0, h1, h2]
    rw [hw, List.drop_of_length_le (by omega)]; rfl
theorem T_rname (s : ByteArray) (hs : s.size ≤ 100) : T Try.prog 17 [.str s] (.bool (nameB s.toList)) := by
  have he : s = ByteArray.empty ↔ s.size = 0 := by rw [ByteArray.size_eq_zero_iff]
  have hl := toList_length s
  refine T.intro (TS.body mix Try.func17 (by kernel_rfl) rfl (by kernel_rfl) (by simp) ?_)
  simp
  refine ⟨by grind, ?_⟩
  (first | refine TS.call' (T_rword s) (by simp) ?_ | refine TDK.call' (T_rword s) (by simp) ?_ | refine GTK.call (fun _ => ⟨T_rword s, by simp⟩) ?_ | refine TS.call (T_rword s) (by simp) ?_ | refine TDK.call (T_rword s) (by simp) ?_); simp
  refine condK_of (fun h => ?_) (fun h => ?_)
  · simp
    cases hc : s.toList with
    | nil => rfl
    | cons c l =>
      have hn : ¬ s.size < 1 := by rw [← hl, hc]; simp
      simp only [nameB]
      rw [← hc, hl]
      simp at h
      grind
  simp
  refine vc_loop (fun i : Nat => s.size - i) (fun i e H => e 0 = .str s ∧ e 3 = .int .i64 i ∧ i ≤ s.size ∧ (0 < i → nameB s.toList = (s.toList.drop i).all okc)) 0 ?_ ?_
  · simp
  rintro i e H ⟨h0, h1, hi, hw⟩
  by_cases hlt : i < s.size
  · have h' : i < s.toList.length := by omega
    have ed : s.toList.drop i = _ := List.drop_eq_getElem_cons h'
    have hok : okc s.toList[i] = ((decide (97 ≤ s.toList[i].toNat) && decide (s.toList[i].toNat ≤ 122)) || (decide (48 ≤ s.toList[i].toNat) && decide (s.toList[i].toNat ≤ 57)) || decide (s.toList[i].toNat = 95)) := rfl
    simp [h0, h1, hlt, byteAt_get h']
    repeat (refine ⟨by grind, ?_⟩)
    refine condK_of (fun h3 => ?_) (fun h3 => ?_)
    · simp
      by_cases hz : i = 0
      · subst hz
        cases hc : s.toList with
        | nil => rfl
        | cons c l =>
          simp only [hc, List.getElem_cons_zero] at h3 hok
          simp only [nameB, List.all_cons, hok]
          simp at h3
          grind
      · have : okc s.toList[i] = false := by rw [hok]; simp at h3; grind
        rw [hw (by omega), ed, List.all_cons, this]; rfl
    · simp [h0, h1]
      refine ⟨i + 1, by omega, by rw [wrap_i64 (by omega) (by omega)]; simp, by omega, fun _ => ?_⟩
      by_cases hz : i = 0
      · subst hz
        cases hc : s.toList with
        | nil => rw [hc] at h'; simp at h'
        | cons c l =>
          simp only [hc, List.getElem_cons_zero] at h3 hok
          simp only [nameB, List.all_cons, hok]
          rw [← hc, hl, hc]
          simp at h3 h
          simp only [Nat.zero_add, List.drop_succ_cons, List.drop_zero]
          rw [hc] at h
          grind
      · have : okc s.toList[i] = true := by rw [hok]; simp at h3; grind
        rw [hw (by omega), ed, List.all_cons, this]; rfl
  · have e1 : i = s.size := by omega
    subst e1
    simp [h0, h1]
    simp at h
    rw [hw (by omega), List.drop_of_length_le (by omega)]; rfl
theorem T_live05 : T Try.prog 15 [] (.bool true) := by
  refine T.intro (TS.body mix Try.func15 (by kernel_rfl) rfl (by kernel_rfl) (by simp) ?_)
  simp
  have e1 : nameB [97, 95, 49] = true := by decide
  have e2 : nameB [49, 97] = false := by decide
  have e3 : nameB [106, 111, 105, 110] = false := by decide
  refine TS.call' (T_name ⟨#[97, 95, 49]⟩ (by decide)) (by simp) ?_
  simp
  refine GTK.call (fun _ => ⟨T_name ⟨#[49, 97]⟩ (by decide), by simp⟩) ?_
  simp [e1, e2]
  refine GTK.call (fun _ => ⟨T_name ⟨#[106, 111, 105, 110]⟩ (by decide), by simp⟩) ?_
  simp [e1, e2, e3]
theorem T_SchemaNames (s : ByteArray) : T Try.prog 3 [.str s] (.bool true) := by
  refine T.intro (TS.body mix Try.func3 (by kernel_rfl) rfl (by kernel_rfl) (by simp) ?_)
  simp
  refine condK_of (fun h => ?_) (fun h => ?_)
  · simp
    (first | refine TS.call' (T_live05) (by simp) ?_ | refine TDK.call' (T_live05) (by simp) ?_ | refine GTK.call (fun _ => ⟨T_live05, by simp⟩) ?_ | refine TS.call (T_live05) (by simp) ?_ | refine TDK.call (T_live05) (by simp) ?_); simp
  simp at h
  simp
  (first | refine TS.call' (T_name s (by omega)) (by simp) ?_ | refine TDK.call' (T_name s (by omega)) (by simp) ?_ | refine GTK.call (fun _ => ⟨T_name s (by omega), by simp⟩) ?_ | refine TS.call (T_name s (by omega)) (by simp) ?_ | refine TDK.call (T_name s (by omega)) (by simp) ?_); simp
  (first | refine TS.call' (T_rname s (by omega)) (by simp) ?_ | refine TDK.call' (T_rname s (by omega)) (by simp) ?_ | refine GTK.call (fun _ => ⟨T_rname s (by omega), by simp⟩) ?_ | refine TS.call (T_rname s (by omega)) (by simp) ?_ | refine TDK.call (T_rname s (by omega)) (by simp) ?_); simp
  (first | refine TS.call' (T_word s) (by simp) ?_ | refine TDK.call' (T_word s) (by simp) ?_ | refine GTK.call (fun _ => ⟨T_word s, by simp⟩) ?_ | refine TS.call (T_word s) (by simp) ?_ | refine TDK.call (T_word s) (by simp) ?_); simp
  (first | refine TS.call' (T_rword s) (by simp) ?_ | refine TDK.call' (T_rword s) (by simp) ?_ | refine GTK.call (fun _ => ⟨T_rword s, by simp⟩) ?_ | refine TS.call (T_rword s) (by simp) ?_ | refine TDK.call (T_rword s) (by simp) ?_); simp
  (first | refine TS.call' (T_live05) (by simp) ?_ | refine TDK.call' (T_live05) (by simp) ?_ | refine GTK.call (fun _ => ⟨T_live05, by simp⟩) ?_ | refine TS.call (T_live05) (by simp) ?_ | refine TDK.call (T_live05) (by simp) ?_); simp
theorem S_SchemaNames {xs : List AV} (h : ShA Try.prog [9] xs) : T Try.prog 3 xs (.bool true) := by
  obtain ⟨u, r, rfl, h3, h⟩ := h.cons_of ag_9
  obtain rfl := h.nil_of
  obtain ⟨s, rfl, _⟩ := h3.str_of un_9
  exact T_SchemaNames s
end Go.Proofs.Ytgmhmdmfnmlhmaa.PL
