import Derived.Test.YtmpomnnaoggdkaaLVarintFrame
import Derived.Test.YtmpomnnaoggdkaaLCrcSeal
import Derived.Test.YtmpomnnaoggdkaaLFew
import Derived.Test.YtmpomnnaoggdkaaPAx2
import Derived.Test.YtmpomnnaoggdkaaPAx3
import Derived.Test.YtmpomnnaoggdkaaPAx1
-- bundles, written
set_option linter.unusedVariables false
set_option linter.unusedSimpArgs false
set_option linter.unusedSectionVars false
namespace Go.Proofs.Ytmpomnnaoggdkaa.Pure
open Go.RowKit Go.Proofs.Ytmpomnnaoggdkaa.PA Go.Proofs.YtmpomnnaoggdkaaW.PrintWords Go.Proofs.YtmpomnnaoggdkaaW.PrintLast Go.Proofs.YtmpomnnaoggdkaaW.PrintMore
def fld (x : List ByteArray) (i : Nat) : ByteArray := x.getD i ByteArray.empty
theorem rdOf_0 (x : List ByteArray) : rdOf ByteArray.empty x 0 = fld x 0 := rfl
theorem rdOf_1 (x : List ByteArray) : rdOf ByteArray.empty x 1 = fld x 1 := rfl
theorem empty_iff (s : ByteArray) : s.toList = [] ↔ s.size = 0 := by
  rw [← nats_length]
  unfold nats
  rw [List.length_map]
  constructor
  · intro h; rw [h]; rfl
  · intro h; exact List.eq_nil_of_length_eq_zero h
/-- A record that may be a file. -/
def fileOk (x : List ByteArray) : Prop := x.length = 2 ∧ 1 ≤ (fld x 0).size ∧ (fld x 0).size ≤ 100 ∧ (fld x 1).size ≤ 1000
instance (x : List ByteArray) : Decidable (fileOk x) := by unfold fileOk; infer_instance
theorem isFile_eq (x : List ByteArray) : bundle_isFile.f x = some (decide (fileOk x)) := by
  unfold bundle_isFile.f
  rw [rdOf_0, rdOf_1]
  by_cases h2 : x.length = 2
  · rw [if_pos (by omega), if_pos (by omega)]
    by_cases h0 : (fld x 0).size = 0
    · rw [if_pos ((empty_iff _).2 h0), decide_eq_false]
      rintro ⟨_, h, _⟩; omega
    · rw [if_neg (fun h => h0 ((empty_iff _).1 h))]
      by_cases h1 : (fld x 0).size ≤ 100
      · rw [if_pos (by omega), if_pos (by omega)]
        congr 1
        rw [decide_eq_decide]
        unfold fileOk
        omega
      · rw [if_neg (by omega), decide_eq_false]
        rintro ⟨_, _, h, _⟩; omega
  · rw [if_neg (by omega), decide_eq_false]
    rintro ⟨h, _⟩; omega
/-- A file may stand behind another one's name. -/
def after (p : Option ByteArray) (s : ByteArray) : Bool := match p with
  | none => true
  | some t => Op.bytesLess t.toList s.toList
/-- What the records come to: the list's bytes, and the files'. -/
def bw : Option ByteArray → List Nat → List Nat → List (List ByteArray) → Option (List Nat × List Nat)
  | _, inn, dat, [] => some (inn, dat)
  | p, inn, dat, x :: l => if fileOk x ∧ after p (fld x 0) = true then bw (some (fld x 0)) (inn ++ frm (fld x 0) ++ vb (fld x 1).size) (dat ++ sealed tbl (nats (fld x 1))) l else none
def bwEnd : Option (List Nat × List Nat) → List Nat × Nat
  | none => ([], 10)
  | some (inn, dat) => (vb (sealed tbl inn).length ++ sealed tbl inn ++ dat, 0)
def bundled (l : List (List ByteArray)) : List Nat × Nat := if l.length > 1000 then ([], 10) else bwEnd (bw none (vb l.length) [] l)
def prevOf (l : List (List ByteArray)) (i : Nat) : Option ByteArray := if i = 0 then none else some (fld (l.getD (i - 1) []) 0)
theorem prevOf_succ (l : List (List ByteArray)) (i : Nat) (h : i < l.length) : prevOf l (i + 1) = some (fld l[i] 0) := by
  unfold prevOf
  rw [if_neg (by omega), Nat.add_sub_cancel, List.getD_eq_getElem?_getD, List.getElem?_eq_getElem h]; rfl
theorem sum_cost {x : List ByteArray} (h : fileOk x) : cost x = 2 + (fld x 0).size + (fld x 1).size := by
  obtain ⟨h, _⟩ := h
  match x, h with
  | [a, b], _ => simp [cost, fld]; omega
theorem all_lt_append {a b : List Nat} (ha : ∀ x ∈ a, x < 256) (hb : ∀ x ∈ b, x < 256) : ∀ x ∈ a ++ b, x < 256 := fun x hx => (List.mem_append.1 hx).elim (ha x) (hb x)
theorem bwrite_loop (l : List (List ByteArray)) (hl : l.length ≤ 1000) : ∀ (d i : Nat) (inn dat : List Nat), i + d = l.length → (∀ x ∈ inn, x < 256) → (∀ x ∈ dat, x < 256) →
    inn.length + d * 20 + costs (l.drop i) ≤ 100000000 → dat.length + d * 4 + costs (l.drop i) ≤ 100000000 → (∀ j, j < i → (l.getD j []).length = 2) →
    Ev (fun k => bundle_Write.l0 k l (ci inn) (ci tbl) (ci dat) l (l.length : Int) (i : Int)) (ci (bwEnd (bw (prevOf l i) inn dat (l.drop i))).1, ((bwEnd (bw (prevOf l i) inn dat (l.drop i))).2 : Int))
  | 0, i, inn, dat, hi, hinn, hdat, hb1, hb2, hp => by
    rw [List.drop_eq_nil_of_le (by omega)]
    have hsl := sealed_length tbl inn
    have hv := vb_length_le10 (n := (sealed tbl inn).length) (by omega)
    refine Ev.succ ?_
    simp only [bundle_Write.l0, bw, bwEnd]
    refine Ev.neg (by omega) (Ev.bind (seal_ev tbl_length tbl_lt hinn (by omega)) ?_)
    dsimp only
    rw [ci_length, wu64, Nat.mod_eq_of_lt (by omega)]
    refine Ev.bind (put_ev (b := []) (by simp) _ (by omega)) (Ev.bind (concat_ev _ (by simp) ?_) (Ev.done ?_))
    · simp [ci_length]; omega
    · simp [ci_append]
  | d + 1, i, inn, dat, hi, hinn, hdat, hb1, hb2, hp => by
    have hil : i < l.length := by omega
    have e : l.drop i = l[i] :: l.drop (i + 1) := List.drop_eq_getElem_cons hil
    rw [e] at hb1 hb2 ⊢
    rw [costs_cons] at hb1 hb2
    have c0 : (i : Int) < (l.length : Int) := by omega
    have c1 : 0 ≤ (i : Int) := by omega
    unfold bw
    have bad : Ev (fun k => bundle_Write.j1 k l (ci inn) (ci tbl) (ci dat) l[i] l (l.length : Int) (i : Int) true) ([], 10) := Ev.succ (by
      simp only [bundle_Write.j1]; exact Ev.pos trivial (Ev.now _))
    by_cases hf : fileOk l[i]
    · have hs := sum_cost hf
      have good : Ev (fun k => bundle_Write.j1 k l (ci inn) (ci tbl) (ci dat) l[i] l (l.length : Int) (i : Int) false)
          (ci (bwEnd (bw (some (fld l[i] 0)) (inn ++ frm (fld l[i] 0) ++ vb (fld l[i] 1).size) (dat ++ sealed tbl (nats (fld l[i] 1))) (l.drop (i + 1)))).1, ((bwEnd (bw (some (fld l[i] 0)) (inn ++ frm (fld l[i] 0) ++ vb (fld l[i] 1).size) (dat ++ sealed tbl (nats (fld l[i] 1))) (l.drop (i + 1)))).2 : Int)) := by
        have hfl := frm_length (fld l[i] 0) (by omega)
        have hvl := vb_length_le10 (n := (fld l[i] 1).size) (by omega)
        have hnl := nats_length (fld l[i] 1)
        have hsl := sealed_length tbl (nats (fld l[i] 1))
        have ih := bwrite_loop l hl d (i + 1) (inn ++ frm (fld l[i] 0) ++ vb (fld l[i] 1).size) (dat ++ sealed tbl (nats (fld l[i] 1))) (by omega)
          (all_lt_append (all_lt_append hinn (frm_lt _)) (vb_lt _)) (all_lt_append hdat (sealed_lt tbl (nats_lt _))) (by rw [List.length_append, List.length_append]; omega) (by rw [List.length_append]; omega) (fun j hj => by
            rcases Nat.lt_or_ge j i with h | h
            · exact hp j h
            · obtain rfl : j = i := by omega
              rw [List.getD_eq_getElem?_getD, List.getElem?_eq_getElem hil]; exact hf.1)
        rw [prevOf_succ l i hil] at ih
        refine Ev.succ ?_
        simp only [bundle_Write.j1, rdOf_0, rdOf_1]
        have h2 := hf.1
        refine Ev.neg (by decide) (Ev.pos (by omega) (Ev.bind (frame_ev (by omega)) (Ev.pos (by omega) ?_)))
        rw [wu64, Nat.mod_eq_of_lt (by omega)]
        refine Ev.bind (put_ev (by rw [List.length_append]; omega) _ (by omega)) (Ev.pos (by omega) ?_)
        rw [bytesOf_nats]
        refine Ev.bind (seal_ev tbl_length tbl_lt (nats_lt _) (by omega)) (Ev.pos (by simp only [ci_length]; omega) ?_)
        rw [w64s i (by omega), ← ci_append]
        exact ih
      refine Ev.succ ?_
      simp only [bundle_Write.l0, rdL1_at l i hil, rdOf_0]
      refine Ev.pos c0 (Ev.pos c1 (Ev.pos c0 (Ev.const (isFile_eq _) (Ev.pos (decide_eq_true hf) ?_))))
      by_cases h0 : i = 0
      · have ea : after (prevOf l i) (fld l[i] 0) = true := by unfold prevOf; rw [if_pos h0]; rfl
        rw [if_pos ⟨hf, ea⟩]
        exact Ev.neg (by omega) good
      · have hi1 : i - 1 < l.length := by omega
        have ew : wrap64 ((i : Int) - 1) = ((i - 1 : Nat) : Int) := by rw [w64 (by omega) (by omega)]; omega
        have hlp : l[i - 1].length = 2 := by
          have := hp (i - 1) (by omega)
          rw [List.getD_eq_getElem?_getD, List.getElem?_eq_getElem hi1] at this
          exact this
        have epr : prevOf l i = some (fld l[i - 1] 0) := by
          unfold prevOf; rw [if_neg h0, List.getD_eq_getElem?_getD, List.getElem?_eq_getElem hi1]; rfl
        have h2 := hf.1
        rw [ew, rdL1_at l (i - 1) hi1, epr]
        refine Ev.pos (by omega) (Ev.pos (by omega) (Ev.pos (by omega) (Ev.pos (by omega) (Ev.pos (by omega) ?_))))
        cases hbl : Op.bytesLess (fld l[i - 1] 0).toList (fld l[i] 0).toList with
        | true =>
          rw [if_pos ⟨hf, hbl⟩]
          exact good
        | false =>
          rw [if_neg (fun h => by have := h.2; simp only [after] at this; rw [hbl] at this; exact absurd this (by decide))]
          exact bad
    · rw [if_neg (fun h => hf h.1)]
      refine Ev.succ ?_
      simp only [bundle_Write.l0, rdL1_at l i hil]
      exact Ev.pos c0 (Ev.pos c1 (Ev.pos c0 (Ev.const (isFile_eq _) (Ev.neg (by simpa using hf) bad))))
theorem bwrite_ev (l : List (List ByteArray)) (hb : costs l ≤ 90000000) : Ev (fun k => bundle_Write.f k l) (ci (bundled l).1, ((bundled l).2 : Int)) := by
  unfold bundled
  simp only [bundle_Write.f]
  by_cases h : l.length > 1000
  · rw [if_pos h]
    exact Ev.pos (by omega) (Ev.now _)
  · rw [if_neg h]
    have hv := vb_length_le10 (n := l.length) (by omega)
    have := bwrite_loop l (by omega) l.length 0 (vb l.length) [] (by omega) (vb_lt _) (by simp) (by rw [List.drop_zero]; omega) (by rw [List.drop_zero, List.length_nil]; omega) (fun j hj => by omega)
    rw [List.drop_zero] at this
    rw [wu64, Nat.mod_eq_of_lt (by omega)]
    exact Ev.neg (by omega) (Ev.bind (put_ev (b := []) (by simp) _ (by omega)) (Ev.bind table_ev this))
end Go.Proofs.Ytmpomnnaoggdkaa.Pure
