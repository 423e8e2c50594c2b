import Derived.Test.YtkbdlgohmafglaaLBlock
import Derived.Test.YtkbdlgohmafglaaLCrcFound
import Derived.Test.YtkbdlgohmafglaaGBlockPair
import Derived.Test.YtkbdlgohmafglaaGBlockReads
import Derived.Test.YtkbdlgohmafglaaPAx5
-- what is stored, with one byte another one
set_option linter.unusedVariables false
set_option linter.unusedSimpArgs false
namespace Go.Proofs.Ytkbdlgohmafglaa.Pure
open Go.RowKit Go.Proofs.Ytkbdlgohmafglaa.PA Go.Proofs.YtkbdlgohmafglaaW.PrintWords Go.Proofs.YtkbdlgohmafglaaW.PrintLast Go.Proofs.YtkbdlgohmafglaaW.PrintMore
theorem ck_set {m : Nat} (hm : 0 < m) (s : List Nat) (i v j : Nat) : ck m (s.set i v) j = if i / m = j then (ck m s j).set (i % m) v else ck m s j := by
  have hd := Nat.div_add_mod i m
  have hr := Nat.mod_lt i hm
  unfold ck
  rw [List.drop_set]
  by_cases h : i < j * m
  · rw [if_pos h, if_neg]
    intro e
    rw [← e, Nat.mul_comm] at h
    omega
  · rw [if_neg h, List.take_set]
    by_cases e : i / m = j
    · rw [if_pos e]
      congr 1
      rw [← e, Nat.mul_comm]
      omega
    · rw [if_neg e]
      refine List.set_eq_of_length_le ?_
      have h1 : (j + 1) * m ≤ i := by
        refine (Nat.le_div_iff_mul_le hm).1 ?_
        have : j ≤ i / m := (Nat.le_div_iff_mul_le hm).2 (by omega)
        omega
      rw [Nat.succ_mul] at h1
      rw [List.length_take]
      omega
theorem ck_getD (m : Nat) (s : List Nat) (j r : Nat) (h : r < m) : (ck m s j).getD r 0 = s.getD (j * m + r) 0 := by
  unfold ck
  simp only [List.getD_eq_getElem?_getD, List.getElem?_take, List.getElem?_drop, if_pos h]
theorem row_in {l : List Nat} {i : Nat} (h : i < (sto l).length) : i / 68 * 64 < l.length := by
  rw [sto_length _ l (Nat.le_refl _)] at h
  omega
theorem good_row (l : List Nat) (j : Nat) (h : j * 64 < l.length) : opb (sealed tbl (ck 64 l j)) = (ck 64 l j, true) := by
  unfold opb
  rw [open_sealed]
  have := ck_length 64 l j
  simp only [Prod.mk.injEq, true_and, decide_eq_true_eq]
  omega
theorem bad_row {l : List Nat} (hl : ∀ x ∈ l, x < 256) {i a : Nat} (hi : i < (sto l).length) (ha : a < 256) (ha0 : a ≠ 0) :
    (opb (ck 68 ((sto l).set i ((sto l).getD i 0 ^^^ a)) (i / 68))).2 = false := by
  have hr := row_in hi
  rw [ck_set (by omega), if_pos rfl, sto_ck _ _ hr]
  have hlen := ck_length 68 (sto l) (i / 68)
  rw [sto_ck _ _ hr, sealed_length] at hlen
  have hg := ck_getD 68 (sto l) (i / 68) (i % 68) (Nat.mod_lt _ (by omega))
  rw [sto_ck _ _ hr, show i / 68 * 68 + i % 68 = i by omega] at hg
  rw [← hg]
  have h4 := opened_changed (ck_lt (m := 64) hl (i / 68)) (i % 68) a (by omega) ha ha0
  unfold opb
  simp only [h4]
  rfl
theorem other_row (l : List Nat) (i v j : Nat) (h : j * 64 < l.length) (hne : i / 68 ≠ j) : ck 68 ((sto l).set i v) j = sealed tbl (ck 64 l j) := by
  rw [ck_set (by omega), if_neg hne, sto_ck _ _ h]
/-! Damaged -/
def bad (y : List Nat) : Nat → Nat → List Int
  | 0, _ => []
  | d + 1, j => (if (opb (ck 68 y j)).2 = true then [] else [(j : Int)]) ++ bad y d (j + 1)
theorem bad_one (y : List Nat) (e : Nat) (hb : (opb (ck 68 y e)).2 = false) : ∀ (d j : Nat), (∀ x, j ≤ x → x < j + d → x ≠ e → (opb (ck 68 y x)).2 = true) → bad y d j = if j ≤ e ∧ e < j + d then [(e : Int)] else []
  | 0, j, _ => by rw [if_neg (by omega)]; rfl
  | d + 1, j, h => by
    unfold bad
    rw [bad_one y e hb d (j + 1) (fun x h1 h2 => h x (by omega) (by omega))]
    by_cases he : j = e
    · subst he
      rw [hb, if_neg (by decide), if_neg (by omega), if_pos (by omega)]
      rfl
    · rw [if_pos (h j (by omega) (by omega) he), List.nil_append]
      by_cases h1 : j ≤ e ∧ e < j + (d + 1)
      · rw [if_pos h1, if_pos (by omega)]
      · rw [if_neg h1, if_neg (by omega)]
theorem cut_ck (y : List Nat) (j : Nat) : (y.take (min (j * 68 + 68) y.length)).drop (j * 68) = ck 68 y j := by
  unfold ck
  rw [List.drop_take]
  rcases Nat.le_total (j * 68 + 68) y.length with h | h
  · rw [Nat.min_eq_left h, show j * 68 + 68 - j * 68 = 68 by omega]
  · rw [Nat.min_eq_right h, List.take_of_length_le (by simp), List.take_of_length_le (by rw [List.length_drop]; omega)]
theorem damaged_loop {y : List Nat} (hy : ∀ x ∈ y, x < 256) (hl : y.length ≤ 1000000) : ∀ (d j : Nat) (acc : List Int), d + j = (y.length + 67) / 68 → acc.length ≤ j →
    Ev (fun k => block_Damaged.l0 k (ci y) acc (ci tbl) ((j * 68 : Nat) : Int)) (acc ++ bad y d j)
  | 0, j, acc, hd, ha => by
    refine Ev.succ ?_
    simp only [block_Damaged.l0, ci_length, bad, List.append_nil]
    exact Ev.neg (by omega) (Ev.now _)
  | d + 1, j, acc, hd, ha => by
    have hj : j * 68 < y.length := by omega
    refine Ev.succ ?_
    have e1 : wrap64 (((j * 68 : Nat) : Int) + 68) = (((j + 1) * 68 : Nat) : Int) := by rw [w64 (by omega) (by omega)]; omega
    have e2 : mn (((j + 1) * 68 : Nat) : Int) (y.length : Int) = ((min (j * 68 + 68) y.length : Nat) : Int) := by
      unfold mn
      split <;> omega
    have e3 : wrap64 (Int.tdiv ((j * 68 : Nat) : Int) 68) = (j : Int) := by
      rw [show (68 : Int) = ((68 : Nat) : Int) from rfl, tdiv_nat, show j * 68 / 68 = j by omega, w64 (by omega) (by omega)]
    simp only [block_Damaged.l0, ci_length, e1, e2, e3, Int.toNat_natCast, ci_take, ci_drop, cut_ck]
    refine Ev.pos (by omega) (Ev.pos (by omega) (Ev.pos (by omega) (Ev.pos (by omega) ?_)))
    refine Ev.bind (bopen_ev (ck_lt (m := 68) hy j) (by rw [ck_length]; omega)) ?_
    dsimp only
    unfold bad
    by_cases hb : (opb (ck 68 y j)).2 = true
    · rw [if_pos hb, List.nil_append]
      exact Ev.pos hb (damaged_loop hy hl d (j + 1) acc (by omega) (by omega))
    · rw [if_neg hb, ← List.append_assoc]
      exact Ev.neg hb (Ev.pos (by omega) (damaged_loop hy hl d (j + 1) _ (by omega) (by rw [List.length_append]; simp; omega)))
theorem damaged_ev {y : List Nat} (hy : ∀ x ∈ y, x < 256) (hl : y.length ≤ 1000000) : Ev (fun k => block_Damaged.f k (ci y)) (bad y ((y.length + 67) / 68) 0) := by
  simp only [block_Damaged.f]
  refine Ev.bind table_ev ?_
  have e := damaged_loop hy hl ((y.length + 67) / 68) 0 [] (by omega) (by simp)
  simpa using e
/-! ReadAt of one byte -/
theorem loa_one {s : List Nat} (h0 : 0 < s.length) (h1 : s.length ≤ 68) : loa s = if (opb s).2 = true then ((opb s).1, 0) else ([], 16) := by
  unfold loa
  rw [rws_cons (by omega) (List.length_pos_iff.1 h0), List.take_of_length_le h1, List.drop_of_length_le h1, rws_nil 68 (by omega)]
  simp
theorem size_eq (L n : Nat) (h : n = L + (L + 63) / 64 * 4) (hl : L ≤ 1000000) (y : List Nat) (hy : y.length = n) : block_Size.f (ci y) = some (L : Int) := by
  unfold block_Size.f
  rw [ci_length, hy]
  have e1 : wrap64 ((n : Int) / 68) = (n : Int) / 68 := w64 (by omega) (by omega)
  have e2 : wrap64 ((n : Int) / 68 * 64) = (n : Int) / 68 * 64 := w64 (by omega) (by omega)
  rw [e1, e2]
  congr 1
  have e3 : mx 0 ((n : Int) % 68 - 4) = (L : Int) - (n : Int) / 68 * 64 := by
    unfold mx
    split <;> omega
  rw [e3, w64 (by omega) (by omega)]
  omega
theorem readat_ev {y : List Nat} (hy : ∀ x ∈ y, x < 256) (L : Nat) (hL : L ≤ 1000000) (hyl : y.length = L + (L + 63) / 64 * 4) (hyl2 : y.length ≤ 1000000) (x : Nat) (hx : x < L) :
    ((opb (ck 68 y (x / 64))).2 = false → Ev (fun k => block_ReadAt.f k (ci y) (x : Int) 1) ([], 16)) ∧
    (∀ p, opb (ck 68 y (x / 64)) = (p, true) → x % 64 < p.length → Ev (fun k => block_ReadAt.f k (ci y) (x : Int) 1) ([((p.getD (x % 64) 0 : Nat) : Int)], 0)) := by
  have hs := size_eq L _ hyl hL y rfl
  have h1n : (1 : Int).toNat = 1 := rfl
  have hck : ((y.take (min ((x + 1 - 1) / 64 * 68 + 68) y.length)).drop (x / 64 * 68)) = ck 68 y (x / 64) := cut_ck y (x / 64)
  have hcl := ck_length 68 y (x / 64)
  have hload := load_ev (ck_lt (m := 68) hy (x / 64)) (by omega)
  rw [loa_one (by omega) (by omega)] at hload
  constructor
  · intro hb
    rw [if_neg (by rw [hb]; decide)] at hload
    simp only [block_ReadAt.f, ci_length, Int.toNat_natCast, h1n, ci_take, ci_drop, hck]
    refine Ev.pos hyl2 (Ev.const hs (Ev.neg (by omega) (Ev.neg (by omega) (Ev.pos (by omega) (Ev.bind hload ?_)))))
    dsimp only
    exact Ev.neg (by decide) (Ev.now _)
  · intro p hp hxp
    rw [hp, if_pos rfl] at hload
    simp only [block_ReadAt.f, ci_length, Int.toNat_natCast, h1n, ci_take, ci_drop, hck]
    refine Ev.pos hyl2 (Ev.const hs (Ev.neg (by omega) (Ev.neg (by omega) (Ev.pos (by omega) (Ev.bind hload ?_)))))
    dsimp only
    rw [ci_length]
    refine Ev.pos (by rfl) (Ev.pos (by omega) (Ev.eq (Ev.now _) ?_))
    rw [ci_take, ci_drop, List.drop_take, show x % 64 + 1 - x % 64 = 1 by omega]
    have : (p.drop (x % 64)).take 1 = [p.getD (x % 64) 0] := by
      rw [List.drop_eq_getElem_cons hxp]
      simp only [List.take_succ_cons, List.take_zero, List.getD_eq_getElem?_getD, List.getElem?_eq_getElem hxp, Option.getD_some]
    rw [this]
    rfl
end Go.Proofs.Ytkbdlgohmafglaa.Pure
