import Derived.Test.YtkbdlgohmafglaaLCrc
import Derived.Test.YtkbdlgohmafglaaLCrcSeal
import Derived.Test.YtkbdlgohmafglaaPAx1
-- one changed byte changes the sum: the register's step is one to one
set_option linter.unusedVariables false
set_option linter.unusedSimpArgs false
namespace Go.Proofs.Ytkbdlgohmafglaa.Pure
open Go.RowKit Go.Proofs.Ytkbdlgohmafglaa.PA Go.Proofs.YtkbdlgohmafglaaW.PrintWords Go.Proofs.YtkbdlgohmafglaaW.PrintLast Go.Proofs.YtkbdlgohmafglaaW.PrintMore
def tops : List Nat := tbl.map (· / 16777216)
theorem tops_inj : ∀ i ∈ List.range 256, tops.idxOf (tops.getD i 0) = i := by decide +kernel
theorem top_eq (i : Nat) (hi : i < 256) : tops.getD i 0 = tbl.getD i 0 / 16777216 := by
  have h : i < tbl.length := by rw [tbl_length]; exact hi
  simp only [tops, List.getD_eq_getElem?_getD, List.getElem?_map, List.getElem?_eq_getElem h, Option.map_some, Option.getD_some]
theorem tbl_inj {i j : Nat} (hi : i < 256) (hj : j < 256) (h : tbl.getD i 0 / 16777216 = tbl.getD j 0 / 16777216) : i = j := by
  have hi' := tops_inj i (List.mem_range.2 hi)
  have hj' := tops_inj j (List.mem_range.2 hj)
  rw [top_eq i hi, h, ← top_eq j hj, hj'] at hi'
  exact hi'.symm
theorem xor_top (a u : Nat) (hu : u < 16777216) : (a ^^^ u) / 16777216 = a / 16777216 := by
  have h := Nat.shiftRight_xor_distrib (a := a) (b := u) (i := 24)
  simp only [Nat.shiftRight_eq_div_pow] at h
  rw [show (2 : Nat) ^ 24 = 16777216 from rfl, Nat.div_eq_of_lt hu, Nat.xor_zero] at h
  exact h
theorem xor_cancel_left {a b c : Nat} (h : a ^^^ b = a ^^^ c) : b = c := by
  have h2 := congrArg (a ^^^ ·) h
  simp only [← Nat.xor_assoc, Nat.xor_self, Nat.zero_xor] at h2
  exact h2
theorem xor_cancel_right {a b c : Nat} (h : b ^^^ a = c ^^^ a) : b = c := by
  rw [Nat.xor_comm b, Nat.xor_comm c] at h; exact xor_cancel_left h
theorem nxt_inj {c d x y : Nat} (hc : c < 4294967296) (hd : d < 4294967296) (hx : x < 256) (hy : y < 256)
    (h : tbl.getD ((c % 256) ^^^ x) 0 ^^^ (c / 256) = tbl.getD ((d % 256) ^^^ y) 0 ^^^ (d / 256)) : (c % 256) ^^^ x = (d % 256) ^^^ y ∧ c / 256 = d / 256 := by
  have h1 := congrArg (· / 16777216) h
  simp only [xor_top _ _ (show c / 256 < 16777216 by omega), xor_top _ _ (show d / 256 < 16777216 by omega)] at h1
  have e := tbl_inj (xor_lt8 (show c % 256 < 256 by omega) hx) (xor_lt8 (show d % 256 < 256 by omega) hy) h1
  rw [e] at h
  exact ⟨e, xor_cancel_left h⟩
theorem mor_inj : ∀ (b : List Nat), (∀ x ∈ b, x < 256) → ∀ c d : Nat, c < 4294967296 → d < 4294967296 → mor tbl c b = mor tbl d b → c = d
  | [], _, c, d, _, _, h => h
  | x :: b, hb, c, d, hc, hd, h => by
    have hx := hb x (List.mem_cons_self ..)
    have e := mor_inj b (fun y hy => hb y (List.mem_cons_of_mem _ hy)) _ _ (nxt_lt tbl_lt c x hc) (nxt_lt tbl_lt d x hd) h
    obtain ⟨e1, e2⟩ := nxt_inj hc hd hx hx e
    have := xor_cancel_right e1
    omega
theorem mor_changed : ∀ (b : List Nat), (∀ x ∈ b, x < 256) → ∀ (n v c : Nat), c < 4294967296 → n < b.length → v < 256 → mor tbl c (b.set n v) = mor tbl c b → v = b.getD n 0
  | [], _, n, v, c, _, hn, _, _ => absurd hn (by simp)
  | x :: b, hb, 0, v, c, hc, hn, hv, h => by
    have hx := hb x (List.mem_cons_self ..)
    have e := mor_inj b (fun y hy => hb y (List.mem_cons_of_mem _ hy)) _ _ (nxt_lt tbl_lt c v hc) (nxt_lt tbl_lt c x hc) h
    exact xor_cancel_left (nxt_inj hc hc hv hx e).1
  | x :: b, hb, n + 1, v, c, hc, hn, hv, h =>
    mor_changed b (fun y hy => hb y (List.mem_cons_of_mem _ hy)) n v _ (nxt_lt tbl_lt c x hc) (by simpa using hn) hv h
theorem four_inj {c d : Nat} (hc : c < 4294967296) (hd : d < 4294967296) (h : four c = four d) : c = d := by
  simp only [four, List.cons.injEq, and_true] at h
  omega
theorem getD_left (a b : List Nat) (n : Nat) (h : n < a.length) : (a ++ b).getD n 0 = a.getD n 0 := by
  simp only [List.getD_eq_getElem?_getD, List.getElem?_append_left h]
theorem getD_right (a b : List Nat) (n : Nat) (h : a.length ≤ n) : (a ++ b).getD n 0 = b.getD (n - a.length) 0 := by
  simp only [List.getD_eq_getElem?_getD, List.getElem?_append_right h]
theorem xor_ne (x y : Nat) (hy : y ≠ 0) : x ^^^ y ≠ x := by
  intro h
  exact hy (xor_cancel_left (a := x) (by rw [h, Nat.xor_zero]))
theorem opened_changed {b : List Nat} (hb : ∀ x ∈ b, x < 256) (n y : Nat) (hn : n < b.length + 4) (hy : y < 256) (hy0 : y ≠ 0) :
    (opened tbl ((sealed tbl b).set n ((sealed tbl b).getD n 0 ^^^ y))).2 = 4 := by
  have hs := sealed_lt tbl hb
  have hv : (sealed tbl b).getD n 0 ^^^ y < 256 := xor_lt8 (getD_lt hs (by omega)) hy
  unfold opened
  rw [List.length_set, sealed_length, if_neg (by omega), show b.length + 4 - 4 = b.length by omega]
  rw [if_neg]
  intro h
  by_cases hlt : n < b.length
  · have e1 : ((sealed tbl b).set n ((sealed tbl b).getD n 0 ^^^ y)).take b.length = b.set n (b.getD n 0 ^^^ y) := by
      unfold sealed
      rw [List.set_append_left _ _ hlt, List.take_left' (by rw [List.length_set]), getD_left _ _ _ hlt]
    have e2 : ((sealed tbl b).set n ((sealed tbl b).getD n 0 ^^^ y)).drop b.length = four (sum tbl b) := by
      unfold sealed
      rw [List.set_append_left _ _ hlt, List.drop_left' (by rw [List.length_set])]
    rw [e1, e2] at h
    have h3 := xor_cancel_right (four_inj (sum_lt tbl_lt _) (sum_lt tbl_lt _) h)
    have hvb : b.getD n 0 ^^^ y < 256 := xor_lt8 (getD_lt hb (by omega)) hy
    exact xor_ne _ y hy0 (mor_changed b hb n _ _ (by omega) hlt hvb h3)
  · have e1 : ((sealed tbl b).set n ((sealed tbl b).getD n 0 ^^^ y)).take b.length = b := by
      unfold sealed
      rw [List.set_append_right _ _ (by omega), List.take_left]
    have e2 : ((sealed tbl b).set n ((sealed tbl b).getD n 0 ^^^ y)).drop b.length = (four (sum tbl b)).set (n - b.length) ((four (sum tbl b)).getD (n - b.length) 0 ^^^ y) := by
      unfold sealed
      rw [List.set_append_right _ _ (by omega), List.drop_left, getD_right _ _ _ (by omega)]
    rw [e1, e2] at h
    have h3 := congrArg (fun l => l.getD (n - b.length) 0) h
    simp only [List.getD_eq_getElem?_getD, List.getElem?_set_self (l := four (sum tbl b)) (i := n - b.length) (by rw [four_length]; omega), Option.getD_some] at h3
    exact xor_ne _ y hy0 h3.symm
end Go.Proofs.Ytkbdlgohmafglaa.Pure
