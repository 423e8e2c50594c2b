/- By whatever rising places any file is split, what its splits read, in order, is the right part, and just if bytes are left one of them tells it; at most 3000 bytes, 100 places. Condition: none beyond the row's own. -/
import Derived.Test.YtjbnomkajfmlpaaLFixedRead
import Derived.Test.YtjbnomkajfmlpaaLRecs
import Derived.Test.YtjbnomkajfmlpaaLCuts
import Derived.Test.YtjbnomkajfmlpaaPAx7
set_option linter.unusedVariables false
set_option linter.unusedSimpArgs false
set_option linter.unusedSectionVars false
namespace Go.Proofs.Ytjbnomkajfmlpaa.Pure
open Go.RowKit Go.Proofs.Ytjbnomkajfmlpaa.PA Go.Proofs.YtjbnomkajfmlpaaW.PrintWords Go.Proofs.YtjbnomkajfmlpaaW.PrintLast Go.Proofs.YtjbnomkajfmlpaaW.PrintMore
theorem ranges (a b c n : Nat) (h1 : a ≤ b) (h2 : b ≤ c) : List.range' a (min b n - a) ++ List.range' b (min c n - b) = List.range' a (min c n - a) := by
  by_cases h : b ≤ n
  · rw [show min b n - a = b - a by omega, show min c n - a = (b - a) + (min c n - b) by omega]
    have := List.range'_append (s := a) (m := b - a) (n := min c n - b) (step := 1)
    rw [Nat.one_mul, show a + (b - a) = b by omega] at this
    exact this
  · rw [show min c n - b = 0 by omega, List.range'_zero, List.append_nil, show min c n - a = min b n - a by omega]
theorem whole_int (n w : Nat) (hn : n ≤ 1000000) : wrap64 ((n : Int) - (n : Int) % (w : Int)) = ((n / w * w : Nat) : Int) := by
  have h := Nat.div_add_mod n w
  rw [Nat.mul_comm] at h
  rw [show ((n : Int) % (w : Int)) = ((n % w : Nat) : Int) from by simp]
  generalize n / w * w = g at *
  generalize n % w = m at *
  rw [w64 (by omega) (by omega)]
  omega
section
variable {b : List Int} (hl : b.length ≤ 1000000) {w : Nat} (hw : 1 ≤ w) (hw2 : w ≤ 1000)
include hl hw hw2
omit hl hw2 in
theorem sel_append {p q r : Nat} (h1 : p ≤ q) (h2 : q ≤ r) : sel b w p q ++ sel b w q r = sel b w p r := by
  rw [sel_eq hw, sel_eq hw, sel_eq hw, ← List.map_append, ranges _ _ _ _ (Nat.div_le_div_right (by omega)) (Nat.div_le_div_right (by omega))]
omit hl hw2 in
theorem sel_all : sel b w 0 b.length = (List.range (b.length / w)).map (rc b w) := by
  rw [sel_eq hw, List.range_eq_range']
  have h0 : (0 + w - 1) / w = 0 := Nat.div_eq_of_lt (by omega)
  have h1 : b.length / w ≤ (b.length + w - 1) / w := Nat.div_le_div_right (by omega)
  rw [h0, Nat.min_eq_right h1, Nat.sub_zero]
omit hl hw2 in
theorem sel_none (p : Nat) : sel b w p p = [] := by
  rw [sel_eq hw]
  rw [show min ((p + w - 1) / w) (b.length / w) - (p + w - 1) / w = 0 by omega]
  rfl
omit hl hw2 in
theorem sel_length (hw2 : w ≤ 1000) (p q : Nat) : (sel b w p q).length ≤ b.length := by
  have hql : b.length / w ≤ b.length := Nat.div_le_self _ _
  unfold sel
  rw [List.length_map]
  have := List.length_filter_le (fun i => decide (p ≤ i * w ∧ i * w < q)) (List.range (b.length / w))
  rw [List.length_range] at this
  omega
theorem splits_loop {L : List Nat} (hL : Places L b.length) : ∀ (d i : Nat), 1 ≤ i → i + d = L.length →
    Ev (fun k => threshinglaw09_FixedSplits.l0 k b (w : Int) (pcs b w (b.length / w)) ((b.length / w * w : Nat) : Int) (short b w) (ci L) (sel b w 0 (L.getD (i - 1) 0)) (decide (b.length / w * w < L.getD (i - 1) 0)) (i : Int)) true
  | 0, i, h1, hi => by
    refine Ev.succ ?_
    simp only [threshinglaw09_FixedSplits.l0, ci_length]
    have hlast : L.getD (i - 1) 0 = b.length := by
      obtain ⟨h, hh⟩ := hL.last
      rw [List.getD_eq_getElem?_getD, List.getElem?_eq_getElem (by omega)]
      simp only [show i = L.length by omega]
      exact hh
    rw [hlast, sel_all hw]
    have e0 := whole_int b.length w hl
    have e1 : (decide (b.length / w * w < b.length) == (short b w != 0)) = true := by
      unfold short
      by_cases h : b.length / w * w < b.length
      · rw [if_pos h, decide_eq_true h]; rfl
      · rw [if_neg h, decide_eq_false h]; rfl
    refine Ev.neg (by omega) (Ev.bind alive_ev (Ev.pos rfl (Ev.bind (all_ev hl hw hw2) (Ev.bind (recs_ev _ ?_ ?_) (Ev.pos rfl (Ev.pos e1 (Ev.neg (by omega) (Ev.done ?_))))))))
    · have hql : b.length / w ≤ b.length := Nat.div_le_self _ _
      rw [List.length_map, List.length_range]; omega
    · intro x hx
      obtain ⟨j, _, rfl⟩ := List.mem_map.1 hx
      simp [rc]
    · rw [e0]; simp
  | d + 1, i, h1, hi => by
    have hf := hL.few
    have hlt : i < L.length := by omega
    refine Ev.succ ?_
    simp only [threshinglaw09_FixedSplits.l0, ci_length]
    rw [show wrap64 ((i : Int) - 1) = ((i - 1 : Nat) : Int) by rw [w64 (by omega) (by omega)]; omega, hL.rd_at (show i - 1 < L.length by omega), hL.rd_at hlt]
    have g0 : L.getD (i - 1) 0 = L[i - 1] := by rw [List.getD_eq_getElem?_getD, List.getElem?_eq_getElem (by omega)]; rfl
    have g1 : L.getD (i + 1 - 1) 0 = L[i] := by rw [Nat.add_sub_cancel, List.getD_eq_getElem?_getD, List.getElem?_eq_getElem (by omega)]; rfl
    have hup : L[i - 1] < L[i] := by
      have := hL.up (i - 1) (by omega)
      simp only [show i - 1 + 1 = i by omega] at this
      exact this
    have hle := hL.le i hlt
    have ih := splits_loop hL d (i + 1) (by omega) (by omega)
    rw [g1] at ih
    rw [g0]
    have hA := sel_append (b := b) hw (Nat.zero_le (L[i - 1])) (Nat.le_of_lt hup)
    have hb1 := sel_length (b := b) hw hw2 0 (L[i - 1])
    have hb2 := sel_length (b := b) hw hw2 (L[i - 1]) (L[i])
    have hr := read_ev hl hw hw2 (Nat.le_of_lt hup) hle
    generalize b.length / w * w = g at *
    refine Ev.pos (by omega) (Ev.pos (by omega) (Ev.pos (by omega) (Ev.pos (by omega) (Ev.bind hr ?_))))
    dsimp only
    rw [hA, w64s i (by omega)]
    by_cases h : g < L[i]
    · have e2 : (if ((g : Nat) : Int) < ((L[i] : Nat) : Int) then (2 : Int) else 0) = 2 := if_pos (by omega)
      rw [e2]
      rw [decide_eq_true h] at ih
      refine Ev.neg (by decide) (Ev.pos rfl ?_)
      by_cases hx : g < L[i - 1]
      · exact Ev.pos (decide_eq_true hx) (Ev.pos (by omega) ih)
      · exact Ev.neg (by simpa using hx) (Ev.pos (by omega) ih)
    · have e2 : (if ((g : Nat) : Int) < ((L[i] : Nat) : Int) then (2 : Int) else 0) = 0 := if_neg (by omega)
      rw [e2]
      rw [decide_eq_false h] at ih
      exact Ev.pos rfl (Ev.neg (by simp; omega) (Ev.pos (by omega) ih))
end
theorem FixedSplits : threshinglaw09_FixedSplits.Pure := by
  intro b cs a _ _ _ _ _ _ _
  refine Ev.rounds (g := fun k => threshinglaw09_FixedSplits.f k b cs a) ?_
  simp only [threshinglaw09_FixedSplits.f]
  have j : Ev (fun k => threshinglaw09_FixedSplits.j0 k b cs a true) true := Ev.succ (by simp only [threshinglaw09_FixedSplits.j0]; exact Ev.pos trivial (Ev.bind alive_ev (Ev.now _)))
  by_cases g0 : (b.length : Int) > 3000
  · exact Ev.pos g0 j
  refine Ev.neg g0 ?_
  by_cases g1 : (cs.length : Int) > 100
  · exact Ev.pos g1 j
  refine Ev.neg g1 ?_
  by_cases g2 : a < 1
  · exact Ev.pos g2 j
  refine Ev.neg g2 ?_
  by_cases g3 : a > 1000
  · rw [decide_eq_true g3]; exact j
  rw [decide_eq_false g3]
  obtain ⟨w, rfl⟩ := Int.eq_ofNat_of_zero_le (show 0 ≤ a by omega)
  have hw : 1 ≤ w := by omega
  have hw2 : w ≤ 1000 := by omega
  have hl : b.length ≤ 1000000 := by omega
  refine Ev.succ ?_
  simp only [threshinglaw09_FixedSplits.j0]
  obtain ⟨L, hL, hc⟩ := cuts_ev b.length cs (by omega) hl
  refine Ev.neg (by decide) (Ev.bind (scan_ev hl hw hw2) (Ev.bind hc ?_))
  dsimp only
  obtain ⟨h0, h1⟩ := hL.last
  have := splits_loop hl hw hw2 hL (L.length - 1) 1 (by omega) (by omega)
  have e0 : L.getD (1 - 1) 0 = 0 := by
    rw [List.getD_eq_getElem?_getD, Nat.sub_self, hL.first]; rfl
  rw [e0, sel_none hw, decide_eq_false (by omega)] at this
  exact this
end Go.Proofs.Ytjbnomkajfmlpaa.Pure
