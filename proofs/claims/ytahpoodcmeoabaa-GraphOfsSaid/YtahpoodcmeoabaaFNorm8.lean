/- The hypergraph of a query: the reference's. -/
import Derived.Test.YtahpoodcmeoabaaFNorm6
import Derived.Test.YtahpoodcmeoabaaFGraph6
namespace Go.Proofs.Ytahpoodcmeoabaa.PL
open Go.Proofs
set_option linter.unusedVariables false
set_option linter.unusedSimpArgs false
theorem putI_len (v : Int) : ∀ l : List Int, (putI v l).length ≤ l.length + 1
  | [] => by simp [putI]
  | x :: l => by
    have := putI_len v l
    unfold putI
    split
    · simp; omega
    split <;> simp
theorem clsE_len (l : List Edg) : (clsE l).length = 128 := by unfold clsE; rw [plR_len]; simp
/-- a table's classes in the reference -/
def pu1 (rc : List Nat) (t : Int) (l : List Int) (a c : Int) : List Int := if a = t ∧ 0 ≤ colN t c then putI (rc.getD (colN t c).toNat 0 : Nat) l else l
def stE (rc : List Nat) (t : Int) (l : List Int) (e : Edg) : List Int := pu1 rc t (pu1 rc t l e.a e.ac) e.b e.bc
def roT (rc : List Nat) (t : Int) (es : List Edg) : List Int := es.foldl (stE rc t) []
def roOf (n : Nrm) : List (List Int) := (List.range n.scan.length).map fun t : Nat => roT (clsE n.edges) t n.edges
theorem roT_next {rc : List Nat} {t : Int} {es : List Edg} {i : Nat} (h : i < es.length) : roT rc t (es.take (i + 1)) = stE rc t (roT rc t (es.take i)) es[i] := by
  unfold roT; rw [take_next h, List.foldl_append]; rfl
theorem pu1_rises {rc : List Nat} {t : Int} {l : List Int} {a c : Int} (h : Rises l) : Rises (pu1 rc t l a c) := by
  unfold pu1; split
  · exact putI_rises h
  · exact h
theorem pu1_len {rc : List Nat} {t : Int} {l : List Int} {a c : Int} : (pu1 rc t l a c).length ≤ l.length + 1 := by
  unfold pu1; split
  · exact putI_len _ _
  · omega
theorem roT_ok {rc : List Nat} {t : Int} (es : List Edg) : ∀ l : List Int, Rises l → Rises (es.foldl (stE rc t) l) ∧ (es.foldl (stE rc t) l).length ≤ l.length + 2 * es.length := by
  induction es with
  | nil => intro l h; exact ⟨h, by simp⟩
  | cons e es ih =>
    intro l h
    have h1 : Rises (pu1 rc t l e.a e.ac) := pu1_rises h
    have h2 : Rises (stE rc t l e) := pu1_rises h1
    have h3 := pu1_len (rc := rc) (t := t) (l := l) (a := e.a) (c := e.ac)
    have h4 := pu1_len (rc := rc) (t := t) (l := pu1 rc t l e.a e.ac) (a := e.b) (c := e.bc)
    have := ih (stE rc t l e) h2
    have h5 : (stE rc t l e).length ≤ l.length + 2 := by unfold stE; omega
    exact ⟨this.1, by simp only [List.foldl_cons, List.length_cons]; omega⟩
def Gr1 (J : List HO) (x : AV) (M : List (List Int)) : Prop := ∃ o l, Gr 1 1 J x (avs (oslA (AV.int .i64)) l) o ∧ l.map Prod.snd = M
set_option maxRecDepth 4000 in
set_option maxHeartbeats 4000000 in
theorem T_rof21 (n : Nrm) (hE : n.edges.length ≤ 400000) (hS : n.scan.length ≤ 1000) : T Try.prog 42 [n.av] (.sl .no (lists' (roOf n))) := by
  have kn := T_rnew 128 (by omega)
  have hcl : (clsE n.edges).length = 128 := (clsE_len _)
  refine T.introF (TS.body mix Try.func42 (by kernel_rfl) rfl (by kernel_rfl) (by simp) ?_)
  simp
  refine TS.callW kn (Dws.self (by simp)) ?_
  simp
  refine vc_loop (fun i : Nat => n.edges.length - i) (fun i e H => e 1 = .ptr 0 0 ∧ e 3 = .sl .no (nats' (plR (List.range 128) (prE (n.edges.take i)))) ∧ e 4 = .int .i64 i ∧ i ≤ n.edges.length ∧ ∃ J, H = .box n.cs :: J) 0 ?_ ?_
  · simp [prE, plR]
  rintro i e H ⟨e1, e3, e4, hi, J, rfl⟩
  by_cases hlt : i < n.edges.length
  · have ew := wrap_next hlt (by omega)
    have hnx := prE_next hlt (List.range 128)
    have kj := T_rjoin (plR (List.range 128) (prE (n.edges.take i))) (colN n.edges[i].a n.edges[i].ac) (colN n.edges[i].b n.edges[i].bc) (by rw [plR_len]; simp)
    rw [← hnx] at kj
    simp [e1, e3, e4, hlt]
    refine TDK.callW (T_rcolumn _ _) (Dws.self (by simp)) ?_
    simp [e1, e3, e4, hlt]
    refine TDK.callW (T_rcolumn _ _) (Dws.self (by simp)) ?_
    simp [e1, e3, e4, hlt]
    refine TDK.callW kj (Dws.self (by simp)) ?_
    simp [e1, e3, e4, hlt]
    exact ⟨i + 1, by omega, rfl, ew, by omega⟩
  have hie : i = n.edges.length := by omega
  subst hie
  rw [List.take_length] at e3
  change e 3 = .sl .no (nats' (clsE n.edges)) at e3
  simp [e1, e3, e4]
  refine vc_loop (fun t : Nat => n.scan.length - t) (fun t e H => e 1 = .ptr 0 0 ∧ e 3 = .sl .no (nats' (clsE n.edges)) ∧ e 7 = .int .i64 t ∧ t ≤ n.scan.length ∧ ∃ J, H = .box n.cs :: J ∧ Gr1 J (e 6) ((List.range t).map fun t : Nat => roT (clsE n.edges) t n.edges)) 0 ?_ ?_
  · simp [e1, e3]
    exact ⟨none, [], ⟨rfl, .inl rfl⟩, rfl⟩
  clear e1 e3 e4 e hlt hi J
  rintro t e H ⟨e1, e3, e7, ht, J, rfl, hg⟩
  by_cases htl : t < n.scan.length
  · have etw := wrap_next htl (by omega)
    simp [e1, e3, e7, htl]
    refine vc_loop (fun i : Nat => n.edges.length - i) (fun i e H => e 1 = .ptr 0 0 ∧ e 3 = .sl .no (nats' (clsE n.edges)) ∧ e 7 = .int .i64 t ∧ (∃ own, e 8 = .sl own (ints' (roT (clsE n.edges) t (n.edges.take i)))) ∧ e 9 = .int .i64 i ∧ i ≤ n.edges.length ∧ ∃ J, H = .box n.cs :: J ∧ Gr1 J (e 6) ((List.range t).map fun t : Nat => roT (clsE n.edges) t n.edges)) 0 ?_ ?_
    · simp [e1, e3, e7, roT]
      exact hg
    clear e1 e3 e7 hg e J
    rintro i e H ⟨e1, e3, e7, ⟨own, e8⟩, e9, hi, J, rfl, hg⟩
    by_cases hlt : i < n.edges.length
    · have ew := wrap_next hlt (by omega)
      have hnx := roT_next (rc := clsE n.edges) (t := (t : Int)) hlt
      have hok := roT_ok (rc := clsE n.edges) (t := (t : Int)) (n.edges.take i) [] (by simp [Rises])
      change Rises (roT _ _ _) ∧ (roT _ _ _).length ≤ _ at hok
      rw [List.length_take] at hok
      obtain ⟨L, hL⟩ : ∃ L, L = roT (clsE n.edges) t (n.edges.take i) := ⟨_, rfl⟩
      rw [← hL] at hnx hok e8
      obtain ⟨o, l, hg, hl⟩ := hg
      obtain ⟨hr, hll⟩ := hok
      unfold stE at hnx
      by_cases ha : n.edges[i].a = t
      · by_cases hka : 0 ≤ colN t n.edges[i].ac
        · obtain ⟨κ, hκ⟩ : ∃ κ : Nat, colN t n.edges[i].ac = κ := ⟨(colN t n.edges[i].ac).toNat, by omega⟩
          have hκl : κ < (clsE n.edges).length := by rw [hcl]; have := (colN_lt t n.edges[i].ac).2; omega
          have hp : pu1 (clsE n.edges) t L n.edges[i].a n.edges[i].ac = putI ((clsE n.edges)[κ] : Int) L := by unfold pu1; rw [if_pos ⟨ha, hka⟩, hκ]; simp [hκl]
          have kp := T_put21 L ((clsE n.edges)[κ] : Int) (by simp at hll; omega) hr
          have hr2 := putI_rises (v := ((clsE n.edges)[κ] : Int)) hr
          have hl2 := putI_len ((clsE n.edges)[κ] : Int) L
          rw [hp] at hnx
          obtain ⟨L1, hL1⟩ : ∃ L1, L1 = putI ((clsE n.edges)[κ] : Int) L := ⟨_, rfl⟩
          rw [← hL1] at hnx kp hr2 hl2
          have hl1 : L1.length ≤ 1000000 - 1 := by simp at hll; omega
          simp [e1, e3, e7, e8, e9, hlt, ha]
          refine GTK.callW (fun _ => ⟨T_rcolumn _ _, Dws.self (by simp)⟩) ?_
          simp [e1, e3, e7, e8, e9, hlt, ha, hκ]
          refine TS.callW (T_rcolumn _ _) (Dws.self (by simp)) ?_
          simp [e1, e3, e7, e8, e9, hlt, ha, hκ, hκl]
          refine TS.callW kp (.cons (.sl (Dws.self (by simp))) (.cons (.self (by simp)) .nil)) ?_
          by_cases hb : n.edges[i].b = t
          · by_cases hkb : 0 ≤ colN t n.edges[i].bc
            · obtain ⟨κ', hκ'⟩ : ∃ κ' : Nat, colN t n.edges[i].bc = κ' := ⟨(colN t n.edges[i].bc).toNat, by omega⟩
              have hκl' : κ' < (clsE n.edges).length := by rw [hcl]; have := (colN_lt t n.edges[i].bc).2; omega
              have kp' := T_put21 L1 ((clsE n.edges)[κ'] : Int) (by omega) (by assumption)
              have hp' : pu1 (clsE n.edges) t L1 n.edges[i].b n.edges[i].bc = putI ((clsE n.edges)[κ'] : Int) L1 := by unfold pu1; rw [if_pos ⟨hb, hkb⟩, hκ']; simp [hκl']
              rw [hp'] at hnx
              simp [e1, e3, e7, e8, e9, hlt, ha, hκ, hκl, hb]
              refine GTK.callW (fun _ => ⟨T_rcolumn _ _, Dws.self (by simp)⟩) ?_
              simp [e1, e3, e7, e8, e9, hlt, ha, hκ, hκl, hb, hκ']
              refine TS.callW (T_rcolumn _ _) (Dws.self (by simp)) ?_
              simp [e1, e3, e7, e8, e9, hlt, ha, hκ, hκl, hb, hκ', hκl']
              refine TS.callW kp' (.cons (.sl (Dws.self (by simp))) (.cons (.self (by simp)) .nil)) ?_
              simp [e1, e3, e7, e8, e9, hlt, ha, hκ, hκl, hb, hκ', hκl']
              first | exact ⟨i + 1, by omega, by rw [hnx], ew, by omega, o, l, hg.app _, hl⟩ | exact ⟨i + 1, by omega, ⟨_, by rw [hnx]⟩, ew, by omega, o, l, hg.app _, hl⟩
            · have hp' : pu1 (clsE n.edges) t L1 n.edges[i].b n.edges[i].bc = L1 := by unfold pu1; rw [if_neg fun h => hkb h.2]
              rw [hp'] at hnx
              simp [e1, e3, e7, e8, e9, hlt, ha, hκ, hκl, hb]
              refine GTK.callW (fun _ => ⟨T_rcolumn _ _, Dws.self (by simp)⟩) ?_
              simp [e1, e3, e7, e8, e9, hlt, ha, hκ, hκl, hb, hkb]
              first | exact ⟨i + 1, by omega, by rw [hnx], ew, by omega, o, l, hg.app _, hl⟩ | exact ⟨i + 1, by omega, ⟨_, by rw [hnx]⟩, ew, by omega, o, l, hg.app _, hl⟩
          · have hp' : pu1 (clsE n.edges) t L1 n.edges[i].b n.edges[i].bc = L1 := by unfold pu1; rw [if_neg fun h => hb h.1]
            rw [hp'] at hnx
            simp [e1, e3, e7, e8, e9, hlt, ha, hκ, hκl, hb]
            refine GTK.callW (fun h => nomatch h) (ys := []) (r := .bool true) ?_
            simp [e1, e3, e7, e8, e9, hlt, ha, hκ, hκl, hb]
            first | exact ⟨i + 1, by omega, by rw [hnx], ew, by omega, o, l, hg.app _, hl⟩ | exact ⟨i + 1, by omega, ⟨_, by rw [hnx]⟩, ew, by omega, o, l, hg.app _, hl⟩
        · have hp : pu1 (clsE n.edges) t L n.edges[i].a n.edges[i].ac = L := by unfold pu1; rw [if_neg fun h => hka h.2]
          rw [hp] at hnx
          have hl1 : L.length ≤ 1000000 - 1 := by simp at hll; omega
          simp [e1, e3, e7, e8, e9, hlt, ha]
          refine GTK.callW (fun _ => ⟨T_rcolumn _ _, Dws.self (by simp)⟩) ?_
          by_cases hb : n.edges[i].b = t
          · by_cases hkb : 0 ≤ colN t n.edges[i].bc
            · obtain ⟨κ', hκ'⟩ : ∃ κ' : Nat, colN t n.edges[i].bc = κ' := ⟨(colN t n.edges[i].bc).toNat, by omega⟩
              have hκl' : κ' < (clsE n.edges).length := by rw [hcl]; have := (colN_lt t n.edges[i].bc).2; omega
              have kp' := T_put21 L ((clsE n.edges)[κ'] : Int) (by omega) (by assumption)
              have hp' : pu1 (clsE n.edges) t L n.edges[i].b n.edges[i].bc = putI ((clsE n.edges)[κ'] : Int) L := by unfold pu1; rw [if_pos ⟨hb, hkb⟩, hκ']; simp [hκl']
              rw [hp'] at hnx
              simp [e1, e3, e7, e8, e9, hlt, ha, hka, hb]
              refine GTK.callW (fun _ => ⟨T_rcolumn _ _, Dws.self (by simp)⟩) ?_
              simp [e1, e3, e7, e8, e9, hlt, ha, hka, hb, hκ']
              refine TS.callW (T_rcolumn _ _) (Dws.self (by simp)) ?_
              simp [e1, e3, e7, e8, e9, hlt, ha, hka, hb, hκ', hκl']
              refine TS.callW kp' (.cons (.sl (Dws.self (by simp))) (.cons (.self (by simp)) .nil)) ?_
              simp [e1, e3, e7, e8, e9, hlt, ha, hka, hb, hκ', hκl']
              first | exact ⟨i + 1, by omega, by rw [hnx], ew, by omega, o, l, hg.app _, hl⟩ | exact ⟨i + 1, by omega, ⟨_, by rw [hnx]⟩, ew, by omega, o, l, hg.app _, hl⟩
            · have hp' : pu1 (clsE n.edges) t L n.edges[i].b n.edges[i].bc = L := by unfold pu1; rw [if_neg fun h => hkb h.2]
              rw [hp'] at hnx
              simp [e1, e3, e7, e8, e9, hlt, ha, hka, hb]
              refine GTK.callW (fun _ => ⟨T_rcolumn _ _, Dws.self (by simp)⟩) ?_
              simp [e1, e3, e7, e8, e9, hlt, ha, hka, hb, hkb]
              first | exact ⟨i + 1, by omega, by rw [hnx], ew, by omega, o, l, hg.app _, hl⟩ | exact ⟨i + 1, by omega, ⟨_, by rw [hnx]⟩, ew, by omega, o, l, hg.app _, hl⟩
          · have hp' : pu1 (clsE n.edges) t L n.edges[i].b n.edges[i].bc = L := by unfold pu1; rw [if_neg fun h => hb h.1]
            rw [hp'] at hnx
            simp [e1, e3, e7, e8, e9, hlt, ha, hka, hb]
            refine GTK.callW (fun h => nomatch h) (ys := []) (r := .bool true) ?_
            simp [e1, e3, e7, e8, e9, hlt, ha, hka, hb]
            first | exact ⟨i + 1, by omega, by rw [hnx], ew, by omega, o, l, hg.app _, hl⟩ | exact ⟨i + 1, by omega, ⟨_, by rw [hnx]⟩, ew, by omega, o, l, hg.app _, hl⟩
      · have hp : pu1 (clsE n.edges) t L n.edges[i].a n.edges[i].ac = L := by unfold pu1; rw [if_neg fun h => ha h.1]
        rw [hp] at hnx
        have hl1 : L.length ≤ 1000000 - 1 := by simp at hll; omega
        simp [e1, e3, e7, e8, e9, hlt, ha]
        refine GTK.callW (fun h => nomatch h) (ys := []) (r := .bool true) ?_
        by_cases hb : n.edges[i].b = t
        · by_cases hkb : 0 ≤ colN t n.edges[i].bc
          · obtain ⟨κ', hκ'⟩ : ∃ κ' : Nat, colN t n.edges[i].bc = κ' := ⟨(colN t n.edges[i].bc).toNat, by omega⟩
            have hκl' : κ' < (clsE n.edges).length := by rw [hcl]; have := (colN_lt t n.edges[i].bc).2; omega
            have kp' := T_put21 L ((clsE n.edges)[κ'] : Int) (by omega) (by assumption)
            have hp' : pu1 (clsE n.edges) t L n.edges[i].b n.edges[i].bc = putI ((clsE n.edges)[κ'] : Int) L := by unfold pu1; rw [if_pos ⟨hb, hkb⟩, hκ']; simp [hκl']
            rw [hp'] at hnx
            simp [e1, e3, e7, e8, e9, hlt, ha, hb]
            refine GTK.callW (fun _ => ⟨T_rcolumn _ _, Dws.self (by simp)⟩) ?_
            simp [e1, e3, e7, e8, e9, hlt, ha, hb, hκ']
            refine TS.callW (T_rcolumn _ _) (Dws.self (by simp)) ?_
            simp [e1, e3, e7, e8, e9, hlt, ha, hb, hκ', hκl']
            refine TS.callW kp' (.cons (.sl (Dws.self (by simp))) (.cons (.self (by simp)) .nil)) ?_
            simp [e1, e3, e7, e8, e9, hlt, ha, hb, hκ', hκl']
            first | exact ⟨i + 1, by omega, by rw [hnx], ew, by omega, o, l, hg.app _, hl⟩ | exact ⟨i + 1, by omega, ⟨_, by rw [hnx]⟩, ew, by omega, o, l, hg.app _, hl⟩
          · have hp' : pu1 (clsE n.edges) t L n.edges[i].b n.edges[i].bc = L := by unfold pu1; rw [if_neg fun h => hkb h.2]
            rw [hp'] at hnx
            simp [e1, e3, e7, e8, e9, hlt, ha, hb]
            refine GTK.callW (fun _ => ⟨T_rcolumn _ _, Dws.self (by simp)⟩) ?_
            simp [e1, e3, e7, e8, e9, hlt, ha, hb, hkb]
            first | exact ⟨i + 1, by omega, by rw [hnx], ew, by omega, o, l, hg.app _, hl⟩ | exact ⟨i + 1, by omega, ⟨_, by rw [hnx]⟩, ew, by omega, o, l, hg.app _, hl⟩
        · have hp' : pu1 (clsE n.edges) t L n.edges[i].b n.edges[i].bc = L := by unfold pu1; rw [if_neg fun h => hb h.1]
          rw [hp'] at hnx
          simp [e1, e3, e7, e8, e9, hlt, ha, hb]
          refine GTK.callW (fun h => nomatch h) (ys := []) (r := .bool true) ?_
          simp [e1, e3, e7, e8, e9, hlt, ha, hb]
          first | exact ⟨i + 1, by omega, by rw [hnx], ew, by omega, o, l, hg.app _, hl⟩ | exact ⟨i + 1, by omega, ⟨_, by rw [hnx]⟩, ew, by omega, o, l, hg.app _, hl⟩
    · have hie : i = n.edges.length := by omega
      subst hie
      rw [List.take_length] at e8
      have hsn : (List.range (t + 1)).map (fun t : Nat => roT (clsE n.edges) t n.edges) = (List.range t).map (fun t : Nat => roT (clsE n.edges) t n.edges) ++ [roT (clsE n.edges) t n.edges] := by simp [List.range_succ]
      obtain ⟨o, l, hg, hl⟩ := hg
      cases o with
      | none =>
        obtain ⟨g0, gx⟩ := hg
        rw [avs_eq_nil] at g0
        subst g0
        have e6 : (e 6).ex = .sl .exact [] := by rcases gx with h | h <;> rw [h] <;> rfl
        simp [e1, e3, e7, e8, e9, e6]
        refine ⟨t + 1, by omega, etw, by omega, some J.length, [(own, roT (clsE n.edges) t n.edges)], ?_, by rw [hsn, ← hl]; rfl⟩
        simp [Gr, oslA]
      | some w =>
        obtain ⟨e6, hw⟩ := hg
        have hwl := (List.getElem?_eq_some_iff.1 hw).1
        have hlen : l.length = t := by have := congrArg List.length hl; simpa using this
        simp [e1, e3, e7, e8, e9, e6, hw]
        refine ⟨⟨by omega, by omega⟩, t + 1, by omega, etw, by omega, some w, l ++ [(own, roT (clsE n.edges) t n.edges)], ?_, by rw [hsn, ← hl]; simp⟩
        exact ⟨by simp [oslA, avs], by rw [List.getElem?_set_self hwl]; simp⟩
  · have : t = n.scan.length := by omega
    subst this
    obtain ⟨o, l, hg, hl⟩ := hg
    obtain ⟨own, e6⟩ := hg.own
    simp [e1, e3, e7, e6]
    exact Frz.slosl hl
end Go.Proofs.Ytahpoodcmeoabaa.PL
