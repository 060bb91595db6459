/- Columns that must be the same. -/
import Derived.Test.YtahpoodcmeoabaaFNorm5
import Derived.Test.YtahpoodcmeoabaaFGraph4
namespace Go.Proofs.Ytahpoodcmeoabaa.PL
open Go.Proofs
set_option linter.unusedVariables false
set_option linter.unusedSimpArgs false
theorem fH_oth {H : List HO} {R : Nat} {up : List Nat} {i : Int} : (fH H R up i).length = H.length ∧ ∀ j, j ≠ R → (fH H R up i)[j]? = H[j]? := by
  unfold fH
  split
  · exact ⟨by simp, fun j hj => by rw [List.getElem?_set_ne (Ne.symm hj)]⟩
  · exact ⟨rfl, fun _ _ => rfl⟩
theorem joH_oth {H : List HO} {R : Nat} {up : List Nat} {a b : Int} : (joH H R up a b).length = H.length ∧ ∀ j, j ≠ R → (joH H R up a b)[j]? = H[j]? := by
  have h1 := fH_oth (H := H) (R := R) (up := up) (i := a)
  have h2 := fH_oth (H := fH H R up a) (R := R) (up := fu up a) (i := b)
  have h3 : (joH0 H R up a b).length = H.length ∧ ∀ j, j ≠ R → (joH0 H R up a b)[j]? = H[j]? := ⟨by unfold joH0; rw [h2.1, h1.1], fun j hj => by unfold joH0; rw [h2.2 j hj, h1.2 j hj]⟩
  unfold joH
  split
  · exact ⟨by rw [List.length_set, h3.1], fun j hj => by rw [List.getElem?_set_ne (Ne.symm hj), h3.2 j hj]⟩
  · exact h3
theorem S_joinF {H : List HO} {C R n : Nat} {r : List Nat} (a b : Int) (h : UfRef H C R n r) (hCR : C ≠ R) (hl : n ≤ 1000) : TS Try.prog 147 [.ptr C 0, .int .i64 a, .int .i64 b] H (fun x H' => (∃ b, x = .bool b) ∧ UfRef H' C R n (rjo r a b) ∧ H'.length = H.length ∧ ∀ j, j ≠ R → H'[j]? = H[j]?) := by
  obtain ⟨up, h1, h2, h3, h4⟩ := h
  refine (S_join H C R up a b h1 h2 hCR (by omega)).mono ?_
  rintro _ _ ⟨rfl, rfl⟩
  have j := jo_ok h2 a b
  exact ⟨⟨_, rfl⟩, ⟨_, jo_at h1 h2 hCR a b, j.2.1, by rw [j.1, h3], same_join h2 h4 a b⟩, joH_oth⟩
/-- the columns that an edge joins -/
def prE (l : List Edg) : List (Int × Int) := l.map fun e => (colN e.a e.ac, colN e.b e.bc)
theorem prE_next {l : List Edg} {i : Nat} (h : i < l.length) (r : List Nat) : plR r (prE (l.take (i + 1))) = rjo (plR r (prE (l.take i))) (colN l[i].a l[i].ac) (colN l[i].b l[i].bc) := by
  rw [take_next h, prE, List.map_append, plR_append]
  rfl
def clsE (l : List Edg) : List Nat := plR (List.range 128) (prE l)
theorem UfRef.app {H L : List HO} {C R n : Nat} {r : List Nat} (h : UfRef H C R n r) : UfRef (H ++ L) C R n r := by
  obtain ⟨up, h1, h2⟩ := h
  exact ⟨up, h1.app, h2⟩
theorem UfRef.lt {H : List HO} {C R n : Nat} {r : List Nat} (h : UfRef H C R n r) (hn : 0 < n) : C < H.length ∧ R < H.length := by
  obtain ⟨up, h1, h2, h3, h4⟩ := h
  rcases h1 with ⟨h1, _⟩ | ⟨h1, hC, hR⟩
  · subst h1; simp at h3; omega
  · exact ⟨(List.getElem?_eq_some_iff.1 hC).1, (List.getElem?_eq_some_iff.1 hR).1⟩
set_option maxRecDepth 4000 in
theorem S_classes (H : List HO) (n : Nrm) (hl : n.edges.length ≤ 1000000) : TS Try.prog 82 [n.av] H (fun x H' => x = .ptr (H.length + 1) 0 ∧ UfRef H' (H.length + 1) (H.length + 2) 128 (clsE n.edges) ∧ ∀ j, j < H.length → H'[j]? = H[j]?) := by
  have f1 := S_new (H ++ [.box n.cs]) 128
  have hnn : newN 128 = 128 := by decide
  rw [hnn] at f1
  have u0 := UfRef.new (H ++ [.box n.cs]) 128
  have hfr : ∀ j, j < H.length → (newH (H ++ [.box n.cs]) 128)[j]? = H[j]? := fun j hj => by
    unfold newH
    rw [if_neg (by omega), List.getElem?_append_left (by simp; omega), List.getElem?_append_left hj]
  have hn1 : ∃ b, (newH (H ++ [.box n.cs]) 128)[H.length]? = some b ∧ b = .box n.cs := by
    unfold newH
    rw [if_neg (by omega), List.getElem?_append_left (by simp)]
    simp
  obtain ⟨_, hn1, rfl⟩ := hn1
  simp only [List.length_append, List.length_singleton] at f1 u0
  rw [Nat.add_assoc H.length 1 1] at u0
  refine TS.bodyM [100005, 2000511, 1051102, 1051104, 1051107, 1051109] mix Try.func82 (by kernel_rfl) rfl (by kernel_rfl) (by simp) ?_
  simp
  refine TS.pt f1 ?_
  generalize newH (H ++ [.box n.cs]) 128 = H1 at *
  simp [hn1]
  refine vc_loop (fun i : Nat => n.edges.length - i) (fun i e H' => e 3 = .ptr (H.length + 1) 0 ∧ e 8 = .sl .no (edgs n.edges) ∧ e 9 = .int .i64 n.edges.length ∧ e 10 = .int .i64 i ∧ i ≤ n.edges.length ∧ UfRef H' (H.length + 1) (H.length + 2) 128 (plR (List.range 128) (prE (n.edges.take i))) ∧ ∀ j, j < H.length → H'[j]? = H[j]?) 0 ?_ ?_
  · simp [prE, plR]
    exact ⟨u0, hfr⟩
  clear f1 u0 hfr hn1 H1
  rintro i e H1 ⟨e3, e8, e9, e10, hi, hu, hfr⟩
  by_cases hlt : i < n.edges.length
  · have ew := wrap_next hlt (by omega)
    have hu1 := hu.app (L := [.box n.edges[i].cs])
    have hul := hu.lt (by omega)
    simp [e3, e8, e9, e10, hlt]
    refine TDK.callW (T_ncolumn _ _) (Dws.self (by simp)) ?_
    simp [e3, e8, e9, e10, hlt]
    refine TDK.callW (T_ncolumn _ _) (Dws.self (by simp)) ?_
    simp [e3, e8, e9, e10, hlt]
    have hnx := prE_next hlt (List.range 128)
    obtain ⟨up, h1, h2, h3, h4⟩ := hu1
    refine TWK.call (S_join _ _ _ up _ _ h1 h2 (by omega) (by omega)) ?_
    have j1 := jo_ok h2 (colN n.edges[i].a n.edges[i].ac) (colN n.edges[i].b n.edges[i].bc)
    have j2 := jo_at h1 h2 (by omega) (colN n.edges[i].a n.edges[i].ac) (colN n.edges[i].b n.edges[i].bc)
    have j3 := same_join h2 h4 (colN n.edges[i].a n.edges[i].ac) (colN n.edges[i].b n.edges[i].bc)
    have j4 := joH_oth (H := H1 ++ [.box n.edges[i].cs]) (R := H.length + 2) (up := up) (a := colN n.edges[i].a n.edges[i].ac) (b := colN n.edges[i].b n.edges[i].bc)
    simp [e3, e8, e9, e10, hlt]
    refine ⟨i + 1, by omega, ew, by omega, ?_, fun j hj => ?_⟩
    · rw [hnx]
      exact ⟨_, j2, j1.2.1, by rw [j1.1, h3], j3⟩
    · rw [j4.2 j (by omega), List.getElem?_append_left (by omega), hfr j hj]
  · have : i = n.edges.length := by omega
    subst this
    rw [List.take_length] at hu
    simp [e3, e8, e9, e10]
    exact ⟨hu, hfr⟩
end Go.Proofs.Ytahpoodcmeoabaa.PL
