/- The table is as the document says, and any row of at most 300 numbers is right just if it is that. Condition: none beyond the row's own. -/
import Derived.Test.YtkgaemdgocjbfaaLCrcAlive
import Derived.Test.YtkgaemdgocjbfaaPAx3
namespace Go.Proofs.Ytkgaemdgocjbfaa.Pure
open Go.RowKit Go.Proofs.Ytkgaemdgocjbfaa.PA Go.Proofs.YtkgaemdgocjbfaaW.PrintWords Go.Proofs.YtkgaemdgocjbfaaW.PrintLast Go.Proofs.YtkgaemdgocjbfaaW.PrintMore
theorem entry_val : (List.range 256).all (fun i => threshingref02_Entry.f 20 (i : Int) == some ((ent i : Nat) : Int)) = true := by decide +kernel
theorem entry_ev (i : Nat) (h : i < 256) : Ev (fun k => threshingref02_Entry.f k (i : Int)) ((ent i : Nat) : Int) := by
  have e := List.all_eq_true.1 entry_val i (List.mem_range.2 h)
  exact Ev.of (fun k => threshingref02_Entry.mono _ k) (k := 20) (by simpa using e)
theorem tbl_at (i : Nat) (h : i < 256) : tbl.getD i 0 = ent i := by simp [tbl, List.getD_eq_getElem?_getD, h]
theorem eq_loop {a b : List Nat} (h : a.length = b.length) (hl : a.length ≤ 140737488351232) (d : Nat) :
    ∀ i, i + d = a.length → Ev (fun k => slices_Equal_uint32_uint32.l0 k (ci a) (ci b) (a.length : Int) (i : Int)) (decide (a.drop i = b.drop i)) := by
  induction d with
  | zero =>
    intro i hi
    rw [List.drop_eq_nil_of_le (by omega), List.drop_eq_nil_of_le (by omega)]
    refine Ev.succ ?_
    simp only [slices_Equal_uint32_uint32.l0]
    exact Ev.neg (by omega) (Ev.now _)
  | succ d ih =>
    intro i hi
    have ha : a.drop i = a.getD i 0 :: a.drop (i + 1) := by
      rw [List.drop_eq_getElem_cons (by omega), List.getD_eq_getElem?_getD, List.getElem?_eq_getElem (by omega)]; rfl
    have hb : b.drop i = b.getD i 0 :: b.drop (i + 1) := by
      rw [List.drop_eq_getElem_cons (by omega), List.getD_eq_getElem?_getD, List.getElem?_eq_getElem (by omega)]; rfl
    refine Ev.succ ?_
    simp only [slices_Equal_uint32_uint32.l0, ci_length, rd_ci]
    refine Ev.pos (by omega) (Ev.pos (by omega) (Ev.pos (by omega) (Ev.pos (by omega) ?_)))
    by_cases e : a.getD i 0 = b.getD i 0
    · refine Ev.pos (by omega) ?_
      rw [w64s i (by omega)]
      refine Ev.eq (ih (i + 1) (by omega)) ?_
      rw [ha, hb, e]
      simp
    · refine Ev.neg (by omega) (Ev.eq (Ev.now _) ?_)
      rw [ha, hb, decide_eq_false (fun h => e (List.cons.inj h).1)]
theorem right_ev {t : List Nat} (hl : t.length ≤ 300) : Ev (fun k => crc_Right.f k (ci t)) (decide (t = tbl)) := by
  simp only [crc_Right.f]
  refine Ev.bind table_ev (Ev.bind (a := decide (t = tbl)) ?_ (Ev.now _))
  simp only [slices_Equal_uint32_uint32.f, ci_length]
  by_cases h : t.length = tbl.length
  · exact Ev.pos (by omega) (by simpa using eq_loop h (by omega) t.length 0 (by omega))
  · refine Ev.neg (by omega) (Ev.eq (Ev.now _) ?_)
    have : t ≠ tbl := fun e => h (by rw [e])
    simp [this]
/-- Are the numbers of t up to i those of the table? -/
def same (t : List Nat) (i : Nat) : Bool := (t.length == 256) && (t.take i == tbl.take i)
theorem end_ev {t : List Nat} (ht : t.length ≤ 300) {a : Nat} (ha : a < 256) (b : Bool) (hb : b = decide (t = tbl)) : Ev (fun k => threshinglaw02_CrcTable.j1 k (ci t) (a : Int) (ci tbl) b) true := by
  refine Ev.succ ?_
  simp only [threshinglaw02_CrcTable.j1, ci_length, tbl_length, rd_ci]
  rw [w64n a (by omega)]
  refine Ev.bind alive_ev (Ev.pos (by simp) (Ev.pos (by omega) (Ev.pos (by omega) (Ev.pos (by omega) (Ev.bind (entry_ev a ha) (Ev.pos (by rw [tbl_at a ha]) (Ev.bind (right_ev (t := tbl) (by rw [tbl_length]; omega)) (Ev.pos (by simp) (Ev.bind (right_ev ht) (Ev.done ?_))))))))))
  rw [hb]; simp
theorem tab_loop {t : List Nat} (ht : t.length ≤ 300) {a : Nat} (ha : a < 256) (d : Nat) :
    ∀ i, i ≤ 256 → i ≤ t.length → i + d = 256 → Ev (fun k => threshinglaw02_CrcTable.l0 k (ci t) (a : Int) (ci tbl) (same t i) (i : Int)) true := by
  have fin : ∀ i, i ≤ 256 → i ≤ t.length → (i = 256 ∨ i = t.length) → same t i = decide (t = tbl) := by
    intro i h1 h2 h3
    unfold same
    by_cases e : t.length = 256
    · have h4 : i = 256 := by omega
      subst h4
      rw [List.take_of_length_le (by omega), List.take_of_length_le (by rw [tbl_length]; omega)]
      rw [e]
      exact Bool.eq_iff_iff.2 (by simp)
    · have : t ≠ tbl := fun h => e (by rw [h, tbl_length])
      simp [this, e]
  induction d with
  | zero =>
    intro i h1 h2 hi
    refine Ev.succ ?_
    simp only [threshinglaw02_CrcTable.l0, ci_length]
    have := end_ev ht ha _ (fin i h1 h2 (.inl (by omega)))
    by_cases hlt : i < t.length
    · exact Ev.pos (by omega) (Ev.neg (by omega) this)
    · exact Ev.neg (by omega) this
  | succ d ih =>
    intro i h1 h2 hi
    refine Ev.succ ?_
    simp only [threshinglaw02_CrcTable.l0, ci_length, rd_ci]
    by_cases hlt : i < t.length
    · refine Ev.pos (by omega) (Ev.pos (by omega) ?_)
      have hn := ih (i + 1) (by omega) (by omega) (by omega)
      have ht1 : t.take (i + 1) = t.take i ++ [t.getD i 0] := by rw [List.take_succ_eq_append_getElem hlt, List.getD_eq_getElem?_getD, List.getElem?_eq_getElem hlt]; rfl
      have hb1 : tbl.take (i + 1) = tbl.take i ++ [ent i] := by rw [← tbl_at i (by omega), List.take_succ_eq_append_getElem (by rw [tbl_length]; omega), List.getD_eq_getElem?_getD, List.getElem?_eq_getElem (by rw [tbl_length]; omega)]; rfl
      rw [w64s i (by omega)]
      cases hs : same t i with
      | true =>
        refine Ev.pos rfl (Ev.pos (by omega) (Ev.bind (entry_ev i (by omega)) ?_))
        have : same t (i + 1) = (((t.getD i 0 : Nat) : Int) == ((ent i : Nat) : Int)) := by
          unfold same at hs ⊢
          simp only [Bool.and_eq_true, beq_iff_eq] at hs
          rw [ht1, hb1, hs.2, hs.1]
          have hq : ((tbl.take i ++ [t.getD i 0]) == (tbl.take i ++ [ent i])) = (((t.getD i 0 : Nat) : Int) == ((ent i : Nat) : Int)) := by
            rw [Bool.eq_iff_iff, beq_iff_eq, beq_iff_eq]
            refine ⟨fun h => ?_, fun h => ?_⟩
            · rw [(List.cons.inj (List.append_cancel_left h)).1]
            · have h2 : t.getD i 0 = ent i := by omega
              rw [h2]
          rw [hq]
          rfl
        rw [← this]
        exact hn
      | false =>
        refine Ev.neg (by decide) ?_
        have : same t (i + 1) = false := by
          unfold same at hs ⊢
          rw [ht1, hb1]
          cases h1 : (t.length == 256) with
          | false => rfl
          | true =>
            rw [h1] at hs
            simp only [Bool.true_and, beq_eq_false_iff_ne, ne_eq] at hs ⊢
            intro h
            exact hs (List.append_inj_left' h rfl)
        rw [← this]
        exact hn
    · exact Ev.neg (by omega) (end_ev ht ha _ (fin i h1 h2 (.inr (by omega))))
theorem CrcTable : threshinglaw02_CrcTable.Pure := by
  intro l0 a1 _ _ h0 h1
  obtain ⟨t, rfl, ht⟩ := u32s h0
  obtain ⟨h1a, h1b⟩ := wf_u8 h1
  obtain ⟨a, rfl⟩ := Int.eq_ofNat_of_zero_le h1a
  refine Ev.rounds (g := fun k => threshinglaw02_CrcTable.f k (ci t) (a : Int)) ?_
  simp only [threshinglaw02_CrcTable.f, ci_length]
  by_cases g0 : (t.length : Int) > 300
  · exact Ev.pos g0 (Ev.bind alive_ev (Ev.now _))
  refine Ev.neg g0 (Ev.bind table_ev ?_)
  have := tab_loop (t := t) (by omega) (a := a) (by omega) 256 0 (by omega) (by omega) (by omega)
  have e : same t 0 = ((t.length : Int) == 256) := by
    have h2 : (t.length == 256) = ((t.length : Int) == 256) := by rw [Bool.eq_iff_iff, beq_iff_eq, beq_iff_eq]; omega
    unfold same
    rw [List.take_zero, List.take_zero, h2]
    simp
  rw [e] at this
  exact this
end Go.Proofs.Ytkgaemdgocjbfaa.Pure
