import Derived.Test.YtmpomnnaoggdkaaLBundle
import Derived.Test.YtmpomnnaoggdkaaLCrcPlain
import Derived.Test.YtmpomnnaoggdkaaPAx10
import Derived.Test.YtmpomnnaoggdkaaPAx9
-- bundles, written by the reference
set_option linter.unusedVariables false
set_option linter.unusedSimpArgs false
set_option linter.unusedSectionVars false
namespace Go.Proofs.Ytmpomnnaoggdkaa.Pure
open Go.RowKit Go.Proofs.Ytmpomnnaoggdkaa.PA Go.Proofs.YtmpomnnaoggdkaaW.PrintWords Go.Proofs.YtmpomnnaoggdkaaW.PrintLast Go.Proofs.YtmpomnnaoggdkaaW.PrintMore
theorem rframe_ev {b : List Nat} {s : ByteArray} (h : b.length + s.size ≤ 140737488351000) : Ev (fun k => threshingref01_Frame.f k (ci b) s) (ci (b ++ frm s)) := by
  have h10 := vb_length_le10 (n := s.size) (by omega)
  simp only [threshingref01_Frame.f]
  rw [wu64, Nat.mod_eq_of_lt (by omega)]
  refine Ev.bind (rput_ev (by omega) s.size (by omega)) (Ev.pos (by rw [ci_length, List.length_append]; omega) (Ev.done ?_))
  rw [bytesOf_nats, ← ci_append, frm, List.append_assoc]
theorem rbwrite_loop (l : List (List ByteArray)) (hl : l.length ≤ 1000) : ∀ (d i : Nat) (inn dat : List Nat), i + d = l.length → (∀ x ∈ inn, x < 256) → (∀ x ∈ dat, x < 256) →
    inn.length + d * 20 + costs (l.drop i) ≤ 100000000 → dat.length + d * 4 + costs (l.drop i) ≤ 100000000 → (∀ j, j < i → (l.getD j []).length = 2) →
    Ev (fun k => threshingref10_Write.l0 k l (ci inn) (ci dat) (i : Int)) (ci (bwEnd (bw (prevOf l i) inn dat (l.drop i))).1, ((bwEnd (bw (prevOf l i) inn dat (l.drop i))).2 : Int))
  | 0, i, inn, dat, hi, hinn, hdat, hb1, hb2, hp => by
    rw [List.drop_eq_nil_of_le (by omega)]
    have hsl := sealed_length tbl inn
    have hv := vb_length_le10 (n := (sealed tbl inn).length) (by omega)
    refine Ev.succ ?_
    simp only [threshingref10_Write.l0, bw, bwEnd]
    refine Ev.neg (by omega) (Ev.bind (rsealed_ev hinn (by omega)) ?_)
    rw [ci_length, wu64, Nat.mod_eq_of_lt (by omega)]
    refine Ev.bind (rput_ev (b := []) (by simp) _ (by omega)) (Ev.pos (by rw [ci_length, List.nil_append]; omega) (Ev.some (Ev.pos (by rw [List.length_append, ci_length, ci_length, ci_length, List.nil_append]; omega) (Ev.done ?_))))
    simp [ci_append]
  | d + 1, i, inn, dat, hi, hinn, hdat, hb1, hb2, hp => by
    have hil : i < l.length := by omega
    have e : l.drop i = l[i] :: l.drop (i + 1) := List.drop_eq_getElem_cons hil
    rw [e] at hb1 hb2 ⊢
    rw [costs_cons] at hb1 hb2
    have c0 : (i : Int) < (l.length : Int) := by omega
    have c1 : 0 ≤ (i : Int) := by omega
    unfold bw
    have bad : Ev (fun k => threshingref10_Write.j1 k l (ci inn) (ci dat) (i : Int) l[i] true) ([], 10) := Ev.succ (by
      simp only [threshingref10_Write.j1]; exact Ev.pos trivial (Ev.now _))
    refine Ev.succ ?_
    simp only [threshingref10_Write.l0, rdL1_at l i hil, rdOf_0, rdOf_1]
    refine Ev.pos c0 (Ev.pos c1 ?_)
    by_cases hf : fileOk l[i]
    · have hs := sum_cost hf
      obtain ⟨h2, g1, g2, g3⟩ := hf
      have hf : fileOk l[i] := ⟨h2, g1, g2, g3⟩
      have good : Ev (fun k => threshingref10_Write.j1 k l (ci inn) (ci dat) (i : Int) l[i] false)
          (ci (bwEnd (bw (some (fld l[i] 0)) (inn ++ frm (fld l[i] 0) ++ vb (fld l[i] 1).size) (dat ++ sealed tbl (nats (fld l[i] 1))) (l.drop (i + 1)))).1, ((bwEnd (bw (some (fld l[i] 0)) (inn ++ frm (fld l[i] 0) ++ vb (fld l[i] 1).size) (dat ++ sealed tbl (nats (fld l[i] 1))) (l.drop (i + 1)))).2 : Int)) := by
        have hfl := frm_length (fld l[i] 0) (by omega)
        have hvl := vb_length_le10 (n := (fld l[i] 1).size) (by omega)
        have hnl := nats_length (fld l[i] 1)
        have hsl := sealed_length tbl (nats (fld l[i] 1))
        have ih := rbwrite_loop l hl d (i + 1) (inn ++ frm (fld l[i] 0) ++ vb (fld l[i] 1).size) (dat ++ sealed tbl (nats (fld l[i] 1))) (by omega)
          (all_lt_append (all_lt_append hinn (frm_lt _)) (vb_lt _)) (all_lt_append hdat (sealed_lt tbl (nats_lt _))) (by rw [List.length_append, List.length_append]; omega) (by rw [List.length_append]; omega) (fun j hj => by
            rcases Nat.lt_or_ge j i with h | h
            · exact hp j h
            · obtain rfl : j = i := by omega
              rw [List.getD_eq_getElem?_getD, List.getElem?_eq_getElem hil]; exact h2)
        rw [prevOf_succ l i hil] at ih
        refine Ev.succ ?_
        simp only [threshingref10_Write.j1, rdOf_0, rdOf_1]
        refine Ev.neg (by decide) (Ev.pos (by omega) (Ev.bind (rframe_ev (by omega)) (Ev.pos (by omega) ?_)))
        rw [wu64, Nat.mod_eq_of_lt (by omega)]
        refine Ev.bind (rput_ev (by rw [List.length_append]; omega) _ (by omega)) (Ev.pos (by omega) ?_)
        rw [bytesOf_nats]
        refine Ev.bind (rsealed_ev (nats_lt _) (by omega)) (Ev.pos (by rw [ci_length, ci_length]; omega) ?_)
        rw [w64s i (by omega), ← ci_append]
        exact ih
      refine Ev.pos (by omega) (Ev.pos (by omega) (Ev.neg (by omega) (Ev.neg (by omega) (Ev.pos (by omega) (Ev.neg (by omega) ?_)))))
      by_cases h0 : i = 0
      · have ea : after (prevOf l i) (fld l[i] 0) = true := by unfold prevOf; rw [if_pos h0]; rfl
        rw [if_pos ⟨hf, ea⟩]
        exact Ev.neg (by omega) good
      · have hi1 : i - 1 < l.length := by omega
        have ew : wrap64 ((i : Int) - 1) = ((i - 1 : Nat) : Int) := by rw [w64 (by omega) (by omega)]; omega
        have hlp : l[i - 1].length = 2 := by
          have := hp (i - 1) (by omega)
          rw [List.getD_eq_getElem?_getD, List.getElem?_eq_getElem hi1] at this
          exact this
        have epr : prevOf l i = some (fld l[i - 1] 0) := by
          unfold prevOf; rw [if_neg h0, List.getD_eq_getElem?_getD, List.getElem?_eq_getElem hi1]; rfl
        rw [ew, rdL1_at l (i - 1) hi1, epr]
        refine Ev.pos (by omega) (Ev.pos (by omega) (Ev.pos (by omega) (Ev.pos (by omega) ?_)))
        cases hbl : Op.bytesLess (fld l[i - 1] 0).toList (fld l[i] 0).toList with
        | true =>
          rw [if_pos ⟨hf, hbl⟩]
          exact good
        | false =>
          rw [if_neg (fun h => by have := h.2; simp only [after] at this; rw [hbl] at this; exact absurd this (by decide))]
          exact bad
    · rw [if_neg (fun h => hf h.1)]
      by_cases h2 : l[i].length = 2
      · refine Ev.pos (by omega) (Ev.pos (by omega) ?_)
        by_cases g1 : (fld l[i] 0).size < 1
        · exact Ev.pos (by omega) bad
        refine Ev.neg (by omega) ?_
        by_cases g2 : (fld l[i] 0).size > 100
        · exact Ev.pos (by omega) bad
        refine Ev.neg (by omega) (Ev.pos (by omega) ?_)
        by_cases g3 : (fld l[i] 1).size > 1000
        · exact Ev.pos (by omega) bad
        exact absurd ⟨h2, by omega, by omega, by omega⟩ hf
      · exact Ev.neg (by omega) bad
theorem rbwrite_ev (l : List (List ByteArray)) (hb : costs l ≤ 90000000) : Ev (fun k => threshingref10_Write.f k l) (ci (bundled l).1, ((bundled l).2 : Int)) := by
  unfold bundled
  simp only [threshingref10_Write.f]
  by_cases h : l.length > 1000
  · rw [if_pos h]
    exact Ev.pos (by omega) (Ev.now _)
  · rw [if_neg h]
    have hv := vb_length_le10 (n := l.length) (by omega)
    have := rbwrite_loop l (by omega) l.length 0 (vb l.length) [] (by omega) (vb_lt _) (by simp) (by rw [List.drop_zero]; omega) (by rw [List.drop_zero, List.length_nil]; omega) (fun j hj => by omega)
    rw [List.drop_zero] at this
    rw [wu64, Nat.mod_eq_of_lt (by omega)]
    exact Ev.neg (by omega) (Ev.bind (rput_ev (b := []) (by simp) _ (by omega)) this)
end Go.Proofs.Ytmpomnnaoggdkaa.Pure
