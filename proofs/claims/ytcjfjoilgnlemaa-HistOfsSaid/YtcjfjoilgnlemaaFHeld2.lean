/- What is said of tables: one column. -/
import Derived.Test.YtcjfjoilgnlemaaFHeld1
namespace Go.Proofs.Ytcjfjoilgnlemaa.PL
open Go.Proofs
set_option linter.unusedVariables false
set_option linter.unusedSimpArgs false
structure CSt where
  unl : Int
  nul : Int
  marks : List Int
  deriving DecidableEq
abbrev CSt.cs (x : CSt) : List AV := [.int .i64 x.unl, .int .i64 x.nul, .sl .no (ints' x.marks)]
abbrev CSt.av (x : CSt) : AV := .agg x.cs
instance : Sized CSt.av 3 := ⟨fun _ => rfl⟩
instance : Plain CSt.av := ⟨fun x => by simp [AV.pl, AV.pls]⟩
instance : Selfs CSt.av := ⟨fun a x h => by simp at h; rcases h with rfl | rfl | rfl <;> simp⟩
structure Sta where
  rows : Int
  cols : List CSt
  deriving DecidableEq
abbrev csts (l : List CSt) : List AV := avs CSt.av l
abbrev Sta.cs (s : Sta) : List AV := [.int .i64 s.rows, .sl .no (csts s.cols)]
abbrev Sta.av (s : Sta) : AV := .agg s.cs
instance : Plain Sta.av := ⟨fun x => by simp [AV.pl, AV.pls]⟩
def zC : CSt := ⟨0, 0, []⟩
def colI (s : Sta) (c : Int) : CSt := if 0 ≤ c ∧ c < s.cols.length then s.cols[c.toNat]?.getD zC else zC
/-- numbers in a row of their own, or none -/
def MO (b : Nat) (H : List HO) (y : AV) (ms : List Int) : Prop := (ms = [] ∧ y = .sl .exact []) ∨ (0 < ms.length ∧ ∃ k, b ≤ k ∧ y = .mv k ms.length 1 0 ms.length ∧ H[k]? = some (.row ms.length 1 (ints' ms)))
theorem MO.frz {b : Nat} {H : List HO} {y : AV} {ms : List Int} (h : MO b H y ms) : Frz H y (.sl .no (ints' ms)) := by
  rcases h with ⟨rfl, rfl⟩ | ⟨_, k, _, rfl, h⟩
  · exact Frz.slN (f := AV.int .i64) (l := [])
  · exact Frz.row h (by simp) (by simp) (fun y hy => by obtain ⟨a, _, rfl⟩ := mem_avs.1 hy; rfl) (fun x hx => by obtain ⟨a, _, rfl⟩ := mem_avs.1 hx; simp)
structure OkS (s : Sta) : Prop where
  len : s.cols.length ≤ 1000000
  ms : ∀ x, x ∈ s.cols → x.marks.length ≤ 1000000
theorem colI_in {s : Sta} {c : Nat} (h : c < s.cols.length) : colI s c = s.cols[c] := by
  unfold colI
  rw [if_pos ⟨by omega, by omega⟩]
  simp [h]
set_option maxRecDepth 4000 in
theorem S_hcol (H : List HO) (s : Sta) (c : Int) (hs : OkS s) : TS Try.prog 22 [s.av, .int .i64 c] H (fun r H' => ∃ y J, r = .agg [.int .i64 (colI s c).unl, .int .i64 (colI s c).nul, y] ∧ H' = H ++ J ∧ MO H.length H' y (colI s c).marks) := by
  refine TS.body mix Try.func22 (by kernel_rfl) rfl (by kernel_rfl) (by simp) ?_
  simp
  by_cases h0 : c < 0
  · have hc : colI s c = zC := by unfold colI; rw [if_neg (by omega)]
    rw [hc]
    simp [h0]
    exact ⟨_, ⟨rfl, rfl, rfl⟩, .inl ⟨rfl, rfl⟩⟩
  by_cases h1 : (s.cols.length : Int) ≤ c
  · have hc : colI s c = zC := by unfold colI; rw [if_neg (by omega)]
    rw [hc]
    simp [h0, h1]
    exact ⟨_, ⟨rfl, rfl, rfl⟩, .inl ⟨rfl, rfl⟩⟩
  obtain ⟨n, rfl⟩ := Int.eq_ofNat_of_zero_le (show 0 ≤ c by omega)
  have hn : n < s.cols.length := by omega
  have hn2 : (n : Int) < s.cols.length := by omega
  rw [colI_in hn]
  have hml := hs.ms _ (List.getElem_mem hn)
  simp [h0, h1, hn, hn2]
  refine (S_cloneH _ _ hml).mono ?_
  rintro r H' (⟨hm0, rfl, rfl⟩ | ⟨hp, rfl, rfl⟩)
  · simp [h0, h1, hn, hn2, hm0]
    exact .inl ⟨rfl, rfl⟩
  · simp [h0, h1, hn, hn2]
    refine .inr ⟨hp, _, ?_, rfl, ?_⟩
    · omega
    · simp
theorem T_hcol (s : Sta) (c : Int) (hs : OkS s) : T Try.prog 22 [s.av, .int .i64 c] (colI s c).av := by
  refine T.introF ((S_hcol [] s c hs).mono ?_)
  rintro r H' ⟨y, J, rfl, rfl, hm⟩
  exact .agg (.cons (Frz.of_cl2 (by simp)) (.cons (Frz.of_cl2 (by simp)) (.cons hm.frz .nil)))
end Go.Proofs.Ytcjfjoilgnlemaa.PL
