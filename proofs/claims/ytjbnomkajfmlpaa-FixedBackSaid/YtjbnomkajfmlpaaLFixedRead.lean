import Derived.Test.YtjbnomkajfmlpaaLFixed
import Derived.Test.YtjbnomkajfmlpaaPAx5
import Derived.Test.YtjbnomkajfmlpaaPAx4
-- splits of files of records of one width
set_option linter.unusedVariables false
set_option linter.unusedSimpArgs false
set_option linter.unusedSectionVars false
namespace Go.Proofs.Ytjbnomkajfmlpaa.Pure
open Go.RowKit Go.Proofs.Ytjbnomkajfmlpaa.PA Go.Proofs.YtjbnomkajfmlpaaW.PrintWords Go.Proofs.YtjbnomkajfmlpaaW.PrintLast Go.Proofs.YtjbnomkajfmlpaaW.PrintMore
def rc (b : List Int) (w i : Nat) : List ByteArray := [pcL b w i]
theorem filter_range' (a c : Nat) : ∀ q : Nat, c ≤ q → (List.range q).filter (fun i => decide (a ≤ i ∧ i < c)) = List.range' a (c - a)
  | 0, h => by
    rw [show c - a = 0 by omega]; rfl
  | q + 1, h => by
    rw [List.range_succ, List.filter_append]
    rcases Nat.lt_or_ge q c with hc | hc
    · have hc' : c = q + 1 := by omega
      subst hc'
      have e : (List.range q).filter (fun i => decide (a ≤ i ∧ i < q + 1)) = (List.range q).filter (fun i => decide (a ≤ i ∧ i < q)) := by
        refine List.filter_congr (fun i hi => ?_)
        have := List.mem_range.1 hi
        rw [decide_eq_decide]
        omega
      rw [e, filter_range' a q q (Nat.le_refl _)]
      by_cases ha : a ≤ q
      · rw [List.filter_cons, if_pos (by simp; omega), List.filter_nil, show q + 1 - a = (q - a) + 1 by omega, List.range'_concat, Nat.one_mul, show a + (q - a) = q by omega]
      · rw [List.filter_cons, if_neg (by simp; omega), List.filter_nil, List.append_nil, show q - a = 0 by omega, show q + 1 - a = 0 by omega]
    · rw [filter_range' a c q hc, List.filter_cons, if_neg (by simp; omega), List.filter_nil, List.append_nil]
/-- The records that begin from a place on, ahead of another one. -/
def sel (b : List Int) (w : Nat) (p q : Nat) : List (List ByteArray) := ((List.range (b.length / w)).filter (fun i => decide (p ≤ i * w ∧ i * w < q))).map (rc b w)
theorem rd_pcs (b : List Int) (w n i : Nat) (h : i < n) : rd_T47 (pcs b w n) (i : Int) = pc b w i := by
  unfold rd_T47 pcs
  rw [Int.toNat_natCast, List.getD_eq_getElem?_getD, List.getElem?_map, List.getElem?_range h]
  rfl
theorem rd_range' (b : List Int) (w s n i : Nat) (h : i < n) : rd_T47 ((List.range' s n).map (pc b w)) (i : Int) = pc b w (s + i) := by
  unfold rd_T47
  rw [Int.toNat_natCast, List.getD_eq_getElem?_getD, List.getElem?_map, List.getElem?_range' h, Nat.one_mul]
  rfl
theorem gather_loop (b : List Int) (w s n : Nat) (hn : n ≤ 1000000) (x2 x10 : Int) (d : Nat) : ∀ (i : Nat) (acc : List (List ByteArray)), i + d = n → acc.length + d < 5864062014805 →
    Ev (fun k => fixed_Read.l0 k x2 x10 acc ((List.range' s n).map (pc b w)) (n : Int) (i : Int)) (acc ++ (List.range' (s + i) d).map (rc b w), if x10 < x2 then 2 else 0) := by
  induction d with
  | zero =>
    intro i acc hi ha
    refine Ev.succ ?_
    simp only [fixed_Read.l0]
    refine Ev.neg (by omega) ?_
    rw [List.range'_zero, List.map_nil, List.append_nil]
    by_cases h : x10 < x2
    · exact Ev.pos h (Ev.eq (Ev.now _) (by rw [if_pos h]))
    · exact Ev.neg h (Ev.eq (Ev.now _) (by rw [if_neg h]))
  | succ d ih =>
    intro i acc hi ha
    refine Ev.succ ?_
    simp only [fixed_Read.l0, rd_range' b w s n i (by omega)]
    refine Ev.pos (by omega) (Ev.pos (by omega) (Ev.pos (by simp; omega) (Ev.pos (by simp [pc]; omega) ?_)))
    rw [w64s i (by omega), List.range'_succ, List.map_cons]
    have := ih (i + 1) (acc ++ [rc b w (s + i)]) (by omega) (by rw [List.length_append]; simp; omega)
    rw [List.append_assoc, List.singleton_append] at this
    exact this
theorem ge_iff {w : Nat} (hw : 1 ≤ w) (p i : Nat) : p ≤ i * w ↔ (p + w - 1) / w ≤ i := by
  constructor
  · intro h
    have h1 : p + w - 1 < (i + 1) * w := by rw [Nat.succ_mul]; omega
    have h2 := (Nat.div_lt_iff_lt_mul (by omega)).2 h1
    omega
  · intro h
    have h1 : (p + w - 1) / w < i + 1 := by omega
    have h2 := (Nat.div_lt_iff_lt_mul (by omega)).1 h1
    rw [Nat.succ_mul] at h2
    omega
theorem lt_iff {w : Nat} (hw : 1 ≤ w) (q i : Nat) : i * w < q ↔ i < (q + w - 1) / w := by
  have := ge_iff hw q i
  omega
section
variable {b : List Int} (hl : b.length ≤ 1000000) {w : Nat} (hw : 1 ≤ w) (hw2 : w ≤ 1000)
include hl hw hw2
omit hl hw2 in
theorem sel_eq (p q : Nat) : sel b w p q = (List.range' ((p + w - 1) / w) (min ((q + w - 1) / w) (b.length / w) - (p + w - 1) / w)).map (rc b w) := by
  unfold sel
  have e : (List.range (b.length / w)).filter (fun i => decide (p ≤ i * w ∧ i * w < q)) = (List.range (b.length / w)).filter (fun i => decide ((p + w - 1) / w ≤ i ∧ i < min ((q + w - 1) / w) (b.length / w))) := by
    refine List.filter_congr (fun i hi => ?_)
    have := List.mem_range.1 hi
    rw [decide_eq_decide, ge_iff hw, lt_iff hw]
    omega
  rw [e, filter_range' _ _ _ (by omega)]
theorem piecesFrom_ev {p q : Nat} (hpq : p ≤ q) (hq : q ≤ b.length) :
    Ev (fun k => fixed_pieces.f k b (((p + w - 1) / w * w : Nat) : Int) ((min q (b.length / w * w) : Nat) : Int) (w : Int)) ((List.range' ((p + w - 1) / w) (min ((q + w - 1) / w) (b.length / w) - (p + w - 1) / w)).map (pc b w)) := by
  have hql : b.length / w ≤ b.length := Nat.div_le_self _ _
  have hg := good_le (b := b) hw
  have hlt := lt_iff hw q
  have hqq := lt_q (b := b) hw
  have hmono : ∀ i, i < b.length / w → i * w + w ≤ b.length / w * w := fun i hi => by
    have : (i + 1) * w ≤ b.length / w * w := Nat.mul_le_mul_right _ hi
    rw [Nat.succ_mul] at this; exact this
  have hmono2 : ∀ i, b.length / w ≤ i → b.length / w * w ≤ i * w := fun i hi => Nat.mul_le_mul_right _ hi
  generalize b.length / w * w = g at *
  generalize (p + w - 1) / w = i0 at *
  generalize (q + w - 1) / w = c0 at *
  generalize b.length / w = n at *
  simp only [fixed_pieces.f]
  have hp := pieces_loop hl hw hw2 ((min q g : Nat) : Int) (min c0 n - i0) i0 [] (fun j hj1 hj2 => by
      have h1 := (hqq j).1 (by omega)
      have h2 := (hlt j).2 (by omega)
      have h3 := hmono j (by omega)
      exact ⟨by omega, h1⟩) (by
      by_cases h : i0 < min c0 n
      · rw [show i0 + (min c0 n - i0) = min c0 n by omega]
        by_cases h4 : c0 ≤ n
        · have := hlt c0
          rw [show min c0 n = c0 by omega]
          omega
        · have := hmono2 n (by omega)
          rw [show min c0 n = n by omega]
          omega
      · rw [show min c0 n - i0 = 0 by omega, Nat.add_zero]
        by_cases h4 : c0 ≤ n
        · have := hlt i0
          omega
        · have := hmono2 i0 (by omega)
          omega) (by simp; omega)
  exact hp
omit hl in
theorem read_arith {p q g i0 : Nat} (hpq : p ≤ q) (hq : q ≤ 1000000) (hi0 : i0 ≤ p + w - 1) (hi0w : i0 * w ≤ p + w - 1) :
    mn (q : Int) (g : Int) = ((min q g : Nat) : Int) ∧ wrap64 ((p : Int) + (w : Int)) = ((p + w : Nat) : Int) ∧ wrap64 (((p + w : Nat) : Int) - 1) = ((p + w - 1 : Nat) : Int) ∧ wrap64 (i0 : Int) = (i0 : Int) ∧ wrap64 ((i0 : Int) * (w : Int)) = ((i0 * w : Nat) : Int) := by
  refine ⟨?_, ?_, ?_, ?_, ?_⟩
  · unfold mn
    split <;> omega
  · rw [w64 (by omega) (by omega)]; omega
  · rw [w64 (by omega) (by omega)]; omega
  · rw [w64 (by omega) (by omega)]
  · rw [← Int.natCast_mul, w64 (by omega) (by omega)]
theorem read_ev {p q : Nat} (hpq : p ≤ q) (hq : q ≤ b.length) :
    Ev (fun k => fixed_Read.f k b (p : Int) (q : Int) (w : Int)) (sel b w p q, if ((b.length / w * w : Nat) : Int) < (q : Int) then 2 else 0) := by
  have hw' : ¬ ((w : Int) = 0) := by omega
  have hp0 : ¬ ((p : Int) < 0) := by omega
  have hpq' : ¬ ((p : Int) > (q : Int)) := by omega
  have hqd : decide ((q : Int) > (b.length : Int)) = false := decide_eq_false (by omega)
  obtain ⟨eT, e1, e2, e3, e4⟩ := read_arith (g := b.length / w * w) (i0 := (p + w - 1) / w) hw hw2 hpq (by omega) (Nat.div_le_self _ _) (Nat.div_mul_le_self _ _)
  have hn : min ((q + w - 1) / w) (b.length / w) - (p + w - 1) / w ≤ 1000000 := by
    have hql : b.length / w ≤ b.length := Nat.div_le_self _ _
    generalize b.length / w = n at *
    generalize (q + w - 1) / w = c0 at *
    generalize (p + w - 1) / w = i0 at *
    omega
  simp only [fixed_Read.f]
  refine Ev.const (isWidth_eq _) (Ev.pos (isW_of hw hw2) (Ev.neg hp0 (Ev.neg hpq' ?_)))
  rw [hqd]
  refine Ev.succ ?_
  simp only [fixed_Read.j0]
  refine Ev.neg (by simp) (Ev.const (whole_eq hl hw) (Ev.neg hw' ?_))
  rw [e1, e2, tdiv_nat, e3, e4, eT]
  refine Ev.bind (piecesFrom_ev hl hw hw2 hpq hq) ?_
  rw [sel_eq (b := b) hw p q, List.length_map, List.length_range']
  have := gather_loop b w ((p + w - 1) / w) _ hn (q : Int) ((b.length / w * w : Nat) : Int) _ 0 [] (Nat.zero_add _) (Nat.lt_of_le_of_lt (Nat.add_le_add (Nat.le_refl _) hn) (by decide))
  rw [List.nil_append, Nat.add_zero] at this
  exact this
theorem of_loop (p q : Int) (d : Nat) : ∀ (i : Nat) (acc : List (List ByteArray)), i + d = b.length / w → acc.length + d < 5864062014805 →
    Ev (fun k => threshingref05_Of.l0 k (pcs b w (b.length / w)) p q acc (i : Int)) (acc ++ ((List.range' i d).filter (fun i => decide (p ≤ ((i * w : Nat) : Int) ∧ ((i * w : Nat) : Int) < q))).map (rc b w)) := by
  have hql : b.length / w ≤ b.length := Nat.div_le_self _ _
  have hlen : (pcs b w (b.length / w)).length = b.length / w := by simp [pcs]
  induction d with
  | zero =>
    intro i acc hi ha
    refine Ev.succ ?_
    simp only [threshingref05_Of.l0, hlen]
    refine Ev.neg (by omega) (Ev.done ?_)
    simp
  | succ d ih =>
    intro i acc hi ha
    refine Ev.succ ?_
    simp only [threshingref05_Of.l0, hlen, rd_pcs b w _ i (show i < b.length / w by omega)]
    refine Ev.pos (by omega) (Ev.pos (by omega) ?_)
    rw [w64s i (by omega), List.range'_succ, List.filter_cons]
    have f0 : (pc b w i).f0 = ((i * w : Nat) : Int) := rfl
    by_cases h1 : p ≤ ((i * w : Nat) : Int)
    · refine Ev.pos (by rw [f0]; exact h1) ?_
      by_cases h2 : ((i * w : Nat) : Int) < q
      · refine Ev.pos (by rw [f0]; exact h2) (Ev.pos (by simp [pc]; omega) ?_)
        rw [if_pos (decide_eq_true ⟨h1, h2⟩), List.map_cons]
        have := ih (i + 1) (acc ++ [rc b w i]) (by omega) (by rw [List.length_append]; simp; omega)
        rw [List.append_assoc, List.singleton_append] at this
        exact this
      · refine Ev.neg (by rw [f0]; exact h2) ?_
        rw [if_neg (by rw [decide_eq_true_iff]; exact fun h => h2 h.2)]
        exact ih (i + 1) acc (by omega) (by omega)
    · refine Ev.neg (by rw [f0]; exact h1) ?_
      rw [if_neg (by rw [decide_eq_true_iff]; exact fun h => h1 h.1)]
      exact ih (i + 1) acc (by omega) (by omega)
theorem of_ev (p q : Nat) : Ev (fun k => threshingref05_Of.f k (pcs b w (b.length / w)) (p : Int) (q : Int)) (sel b w p q) := by
  have hql : b.length / w ≤ b.length := Nat.div_le_self _ _
  simp only [threshingref05_Of.f]
  have := of_loop hl hw hw2 (p : Int) (q : Int) (b.length / w) 0 [] (by omega) (by simp; omega)
  rw [List.nil_append, ← List.range_eq_range'] at this
  refine Ev.eq this ?_
  unfold sel
  congr 1
  refine List.filter_congr (fun i _ => ?_)
  rw [decide_eq_decide]
  omega
theorem rread_ev {p q : Nat} (hpq : p ≤ q) (hq : q ≤ b.length) :
    Ev (fun k => threshingref09_Read.f k b (p : Int) (q : Int) (w : Int)) (sel b w p q, if ((b.length / w * w : Nat) : Int) < (q : Int) then 2 else 0) := by
  simp only [threshingref09_Read.f]
  refine Ev.const (ris_eq _) (Ev.pos (isW_of hw hw2) (Ev.neg (by omega) (Ev.neg (by omega) ?_)))
  rw [decide_eq_false (by omega)]
  refine Ev.succ ?_
  simp only [threshingref09_Read.j0]
  refine Ev.neg (by simp) (Ev.bind (rscan_ev hl hw hw2) ?_)
  by_cases h : ((b.length / w * w : Nat) : Int) < (q : Int)
  · rw [if_pos h]; exact Ev.pos h (Ev.bind (of_ev hl hw hw2 p q) (Ev.now _))
  · rw [if_neg h]; exact Ev.neg h (Ev.bind (of_ev hl hw hw2 p q) (Ev.now _))
theorem all_loop (d : Nat) : ∀ (i : Nat) (acc : List (List ByteArray)), i + d = b.length / w → acc.length + d < 5864062014805 →
    Ev (fun k => threshingref05_All.l0 k (pcs b w (b.length / w)) acc (i : Int)) (acc ++ (List.range' i d).map (rc b w)) := by
  have hql : b.length / w ≤ b.length := Nat.div_le_self _ _
  have hlen : (pcs b w (b.length / w)).length = b.length / w := by simp [pcs]
  induction d with
  | zero =>
    intro i acc hi ha
    refine Ev.succ ?_
    simp only [threshingref05_All.l0, hlen]
    refine Ev.neg (by omega) (Ev.done ?_)
    simp
  | succ d ih =>
    intro i acc hi ha
    refine Ev.succ ?_
    simp only [threshingref05_All.l0, hlen, rd_pcs b w _ i (show i < b.length / w by omega)]
    refine Ev.pos (by omega) (Ev.pos (by omega) (Ev.pos (by simp [pc]; omega) ?_))
    rw [w64s i (by omega), List.range'_succ, List.map_cons]
    have := ih (i + 1) (acc ++ [rc b w i]) (by omega) (by rw [List.length_append]; simp; omega)
    rw [List.append_assoc, List.singleton_append] at this
    exact this
theorem all_ev : Ev (fun k => threshingref05_All.f k (pcs b w (b.length / w))) ((List.range (b.length / w)).map (rc b w)) := by
  have hql : b.length / w ≤ b.length := Nat.div_le_self _ _
  simp only [threshingref05_All.f]
  have := all_loop hl hw hw2 (b.length / w) 0 [] (by omega) (by simp; omega)
  rw [List.nil_append, ← List.range_eq_range'] at this
  exact this
omit hw hw2 in
theorem sel_len (hw : 1 ≤ w) (hw2 : w ≤ 1000) (p q : Nat) : (sel b w p q).length ≤ 9000000000000000000 := by
  have hql : b.length / w ≤ b.length := Nat.div_le_self _ _
  unfold sel
  rw [List.length_map]
  have := List.length_filter_le (fun i => decide (p ≤ i * w ∧ i * w < q)) (List.range (b.length / w))
  rw [List.length_range] at this
  omega
end
theorem sel_small (b : List Int) (w p q : Nat) : ∀ x ∈ sel b w p q, x.length ≤ 9000000000000000000 := by
  intro x hx
  obtain ⟨i, _, rfl⟩ := List.mem_map.1 hx
  simp [rc]
theorem read_bad (b : List Int) {p q a : Int} (h : isW a = false ∨ p < 0 ∨ p > q ∨ q > (b.length : Int)) : Ev (fun k => fixed_Read.f k b p q a) ([], 1) := by
  simp only [fixed_Read.f]
  refine Ev.const (isWidth_eq _) ?_
  have j : Ev (fun k => fixed_Read.j0 k b p q a true) ([], 1) := Ev.succ (by simp only [fixed_Read.j0]; exact Ev.pos trivial (Ev.now _))
  cases ha : isW a with
  | false => exact Ev.neg (by decide) j
  | true =>
    refine Ev.pos (by simp) ?_
    by_cases h1 : p < 0
    · exact Ev.pos h1 j
    refine Ev.neg h1 ?_
    by_cases h2 : p > q
    · exact Ev.pos h2 j
    refine Ev.neg h2 ?_
    rw [decide_eq_true (by simp [ha] at h; omega)]
    exact j
theorem rread_bad (b : List Int) {p q a : Int} (h : isW a = false ∨ p < 0 ∨ p > q ∨ q > (b.length : Int)) : Ev (fun k => threshingref09_Read.f k b p q a) ([], 1) := by
  simp only [threshingref09_Read.f]
  refine Ev.const (ris_eq _) ?_
  have j : Ev (fun k => threshingref09_Read.j0 k b p q a true) ([], 1) := Ev.succ (by simp only [threshingref09_Read.j0]; exact Ev.pos trivial (Ev.now _))
  cases ha : isW a with
  | false => exact Ev.neg (by decide) j
  | true =>
    refine Ev.pos (by simp) ?_
    by_cases h1 : p < 0
    · exact Ev.pos h1 j
    refine Ev.neg h1 ?_
    by_cases h2 : p > q
    · exact Ev.pos h2 j
    refine Ev.neg h2 ?_
    rw [decide_eq_true (by simp [ha] at h; omega)]
    exact j
end Go.Proofs.Ytjbnomkajfmlpaa.Pure
