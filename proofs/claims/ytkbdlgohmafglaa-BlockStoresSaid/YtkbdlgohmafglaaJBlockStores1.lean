/- Part 1 of the proof of BlockStores: what the program's functions come to. -/
import Derived.LoopIn
import Derived.LoopNIn
import Derived.OwnWalkIn
import Derived.ProofKit
import Derived.RangeFuncBound
import Derived.RangeFuncBox
import Derived.RangeFuncCalls
import Derived.RangeFuncNested
import Derived.Shelf.Abstract
import Derived.Shelf.RegionOpen
import Derived.Sort.QuietIn
import Derived.Sort.QuietTacIn
import Derived.TacticsInMore
import Derived.WalkKit
import Derived.Test.YtkbdlgohmafglaaL3
import Derived.Test.YtkbdlgohmafglaaProg
/- Varints and sums over bytes, in plain terms: no program in sight. -/
namespace Go.Proofs.Ytkbdlgohmafglaa.E
open Go Go.RowKit
set_option linter.unusedVariables false
set_option linter.unusedSimpArgs false
theorem xor_lt8 {a b : Nat} (ha : a < 256) (hb : b < 256) : a ^^^ b < 256 := Nat.xor_lt_two_pow (n := 8) ha hb
theorem xor_lt32 {a b : Nat} (ha : a < 4294967296) (hb : b < 4294967296) : a ^^^ b < 4294967296 := Nat.xor_lt_two_pow (n := 32) ha hb
theorem ci_length (l : List Nat) : (ci l).length = l.length := List.length_map _
theorem ci_append (a b : List Nat) : ci (a ++ b) = ci a ++ ci b := List.map_append
theorem ci_nil : ci [] = [] := rfl
theorem ci_cons (a : Nat) (l : List Nat) : ci (a :: l) = (a : Int) :: ci l := rfl
theorem ci_take (l : List Nat) (n : Nat) : (ci l).take n = ci (l.take n) := by simp [ci, List.map_take]
theorem ci_drop (l : List Nat) (n : Nat) : (ci l).drop n = ci (l.drop n) := by simp [ci, List.map_drop]
theorem ci_set (l : List Nat) (n x : Nat) : (ci l).set n (x : Int) = ci (l.set n x) := by simp [ci, List.map_set]
theorem ci_inj {a b : List Nat} (h : ci a = ci b) : a = b := by
  have := congrArg (List.map Int.toNat) h
  simpa [ci, List.map_map, Function.comp_def] using this
theorem to_ci {l : List Int} {b : Nat} (h : ∀ x ∈ l, 0 ≤ x ∧ x < (b : Int)) : ∃ m : List Nat, l = ci m ∧ ∀ x ∈ m, x < b := by
  refine ⟨l.map Int.toNat, ?_, ?_⟩
  · simp only [ci, List.map_map]
    conv => lhs; rw [← List.map_id l]
    refine List.map_congr_left (fun x hx => ?_)
    have := h x hx
    simp
    omega
  · intro x hx
    obtain ⟨y, hy, rfl⟩ := List.mem_map.1 hx
    have := h y hy
    omega
theorem getD_lt {l : List Nat} {b i : Nat} (h : ∀ x ∈ l, x < b) (hb : 0 < b) : l.getD i 0 < b := by
  rw [List.getD_eq_getElem?_getD]
  cases hg : l[i]? with
  | none => exact hb
  | some x => exact h x (List.mem_of_getElem? hg)
def vb (n : Nat) : List Nat := if n < 128 then [n] else (n % 128 + 128) :: vb (n / 128)
termination_by n
decreasing_by omega
theorem vb_small {n : Nat} (h : n < 128) : vb n = [n] := by rw [vb, if_pos h]
theorem vb_big {n : Nat} (h : ¬ n < 128) : vb n = (n % 128 + 128) :: vb (n / 128) := by rw [vb, if_neg h]
theorem vb_lt (n : Nat) : ∀ x ∈ vb n, x < 256 := by
  induction n using Nat.strongRecOn with
  | ind n ih =>
    intro x hx
    by_cases h : n < 128
    · rw [vb_small h, List.mem_singleton] at hx; omega
    · rw [vb_big h, List.mem_cons] at hx
      rcases hx with rfl | hx
      · omega
      · exact ih (n / 128) (by omega) x hx
theorem vb_length_pos (n : Nat) : 1 ≤ (vb n).length := by
  by_cases h : n < 128
  · rw [vb_small h]; simp
  · rw [vb_big h]; simp
theorem vb_len_le : ∀ (s n : Nat), 1 ≤ s → n < 128 ^ s → (vb n).length ≤ s
  | 0, n, h, _ => absurd h (by omega)
  | s + 1, n, _, h => by
    by_cases h1 : n < 128
    · rw [vb_small h1]; simp
    · rw [vb_big h1, List.length_cons]
      have hs : 1 ≤ s := by
        rcases Nat.eq_zero_or_pos s with rfl | hs
        · exact absurd (by simpa using h) h1
        · exact hs
      have := vb_len_le s (n / 128) hs (by rw [Nat.pow_succ] at h; exact Nat.div_lt_of_lt_mul (by rw [Nat.mul_comm]; exact h))
      omega
theorem vb_len_ge : ∀ (s n : Nat), 128 ^ s ≤ n → s + 1 ≤ (vb n).length
  | 0, n, _ => vb_length_pos n
  | s + 1, n, h => by
    have hp : 1 ≤ 128 ^ s := Nat.pow_pos (by omega)
    have h1 : ¬ n < 128 := by rw [Nat.pow_succ] at h; omega
    rw [vb_big h1, List.length_cons]
    have := vb_len_ge s (n / 128) (by rw [Nat.pow_succ] at h; exact (Nat.le_div_iff_mul_le (by omega)).2 h)
    omega
theorem vb_length_le10 {n : Nat} (h : n < 18446744073709551616) : (vb n).length ≤ 10 := vb_len_le 10 n (by omega) (Nat.lt_of_lt_of_le h (by decide))
theorem vb_length_mono {n m : Nat} (h : (vb n).length < (vb m).length) : n < m := by
  rcases Nat.lt_or_ge n m with h1 | h1
  · exact h1
  exfalso
  have : ∀ (a b : Nat), b ≤ a → (vb b).length ≤ (vb a).length := by
    intro a
    induction a using Nat.strongRecOn with
    | ind a ih =>
      intro b hb
      by_cases hb1 : b < 128
      · rw [vb_small hb1]; exact vb_length_pos a
      · rw [vb_big hb1, vb_big (show ¬ a < 128 by omega), List.length_cons, List.length_cons]
        exact Nat.succ_le_succ (ih (a / 128) (by omega) (b / 128) (by omega))
  have := this n m h1
  omega
def num : List Nat → Nat
  | [] => 0
  | x :: s => x % 128 + 128 * num s
theorem num_snoc : ∀ (p : List Nat) (x : Nat), num (p ++ [x]) = num p + x % 128 * 128 ^ p.length
  | [], x => by simp [num]
  | y :: p, x => by
    rw [List.cons_append, num, num, num_snoc p x, List.length_cons, Nat.pow_succ, Nat.mul_add, ← Nat.add_assoc, Nat.mul_left_comm, Nat.mul_comm 128 (128 ^ p.length)]
theorem num_lt : ∀ p : List Nat, num p < 128 ^ p.length
  | [] => by simp [num]
  | y :: p => by
    have := num_lt p
    rw [num, List.length_cons, Nat.pow_succ]
    omega
theorem num_vb (n : Nat) : num (vb n) = n := by
  induction n using Nat.strongRecOn with
  | ind n ih =>
    by_cases h : n < 128
    · rw [vb_small h, num, num]; omega
    · rw [vb_big h, num, ih (n / 128) (by omega)]; omega
theorem vb_num : ∀ (q : List Nat) (x : Nat), (∀ y ∈ q, 128 ≤ y ∧ y < 256) → x < 128 → (q = [] ∨ x ≠ 0) → vb (num (q ++ [x])) = q ++ [x]
  | [], x, _, hx, _ => by
    rw [List.nil_append, num, num, show x % 128 + 128 * 0 = x by omega, vb_small hx]
  | y :: q, x, hq, hx, h => by
    have h0 : x ≠ 0 := h.resolve_left (by simp)
    have hy := hq y (List.mem_cons_self ..)
    have hp : 1 ≤ 128 ^ q.length := Nat.pow_pos (by omega)
    have h1 : 1 ≤ num (q ++ [x]) := by
      rw [num_snoc, Nat.mod_eq_of_lt hx]
      have : 1 * 1 ≤ x * 128 ^ q.length := Nat.mul_le_mul (by omega) hp
      omega
    rw [List.cons_append, num, vb_big (by omega)]
    rw [show (y % 128 + 128 * num (q ++ [x])) % 128 + 128 = y by omega, show (y % 128 + 128 * num (q ++ [x])) / 128 = num (q ++ [x]) by omega]
    rw [vb_num q x (fun z hz => hq z (List.mem_cons_of_mem _ hz)) hx (Or.inr h0)]
def lead : List Nat → Nat
  | [] => 0
  | x :: s => if 128 ≤ x then lead s + 1 else 0
theorem lead_le : ∀ s : List Nat, lead s ≤ s.length
  | [] => Nat.le_refl _
  | x :: s => by
    rw [lead]
    split
    · simpa using lead_le s
    · simp
theorem lead_hi : ∀ (s : List Nat) (j : Nat), j < lead s → 128 ≤ s.getD j 0
  | [], j, h => absurd h (by simp [lead])
  | x :: s, 0, h => by
    rw [lead] at h
    split at h
    · assumption
    · omega
  | x :: s, j + 1, h => by
    rw [lead] at h
    split at h
    · simpa using lead_hi s j (by omega)
    · omega
theorem lead_lo : ∀ s : List Nat, lead s < s.length → s.getD (lead s) 0 < 128
  | [], h => absurd h (by simp)
  | x :: s, h => by
    by_cases hx : 128 ≤ x
    · rw [lead, if_pos hx] at h ⊢
      simpa using lead_lo s (by simpa using h)
    · rw [lead, if_neg hx]
      simpa using Nat.lt_of_not_le hx
theorem lead_vb : ∀ (s n : Nat) (r : List Nat), (vb n).length = s → lead (vb n ++ r) + 1 = (vb n).length
  | 0, n, r, h => by have := vb_length_pos n; omega
  | s + 1, n, r, h => by
    by_cases h1 : n < 128
    · rw [vb_small h1]; simp only [List.cons_append, lead, if_neg (show ¬ 128 ≤ n by omega), List.length_cons, List.length_nil]
    · rw [vb_big h1, List.length_cons] at h ⊢
      rw [List.cons_append, lead, if_pos (by omega), lead_vb s (n / 128) r (by omega)]
def vbad (s : List Nat) (i : Nat) : Prop := (s.getD i 0 = 0 ∧ 0 < i) ∨ (i = 9 ∧ 1 < s.getD i 0)
instance (s : List Nat) (i : Nat) : Decidable (vbad s i) := by unfold vbad; infer_instance
def vtake (s : List Nat) : Nat × List Nat × Nat :=
  if 10 ≤ lead s then (0, [], 3) else if lead s = s.length then (0, [], 2) else if vbad s (lead s) then (0, [], 3)
  else (num (s.take (lead s + 1)), s.drop (lead s + 1), 0)
theorem take_snoc {s : List Nat} {i : Nat} (h : i < s.length) : s.take (i + 1) = s.take i ++ [s.getD i 0] := by
  rw [List.take_succ_eq_append_getElem h, List.getD_eq_getElem?_getD, List.getElem?_eq_getElem h]; rfl
theorem take_hi {s : List Nat} {i : Nat} (hs : ∀ x ∈ s, x < 256) (hi : i ≤ lead s) : ∀ y ∈ s.take i, 128 ≤ y ∧ y < 256 := by
  intro y hy
  refine ⟨?_, hs y (List.mem_of_mem_take hy)⟩
  obtain ⟨j, hj, rfl⟩ := List.mem_iff_getElem.1 hy
  rw [List.length_take] at hj
  have := lead_hi s j (by omega)
  rw [List.getD_eq_getElem?_getD, List.getElem?_eq_getElem (by omega)] at this
  rw [List.getElem_take]
  exact this
theorem canon {s : List Nat} (hs : ∀ x ∈ s, x < 256) (h10 : lead s < 10) (hl : lead s < s.length) (hb : ¬ vbad s (lead s)) :
    num (s.take (lead s + 1)) < 18446744073709551616 ∧ vb (num (s.take (lead s + 1))) = s.take (lead s + 1) := by
  have hx := lead_lo s hl
  have hn := num_lt (s.take (lead s))
  rw [List.length_take, Nat.min_eq_left (by omega)] at hn
  unfold vbad at hb
  refine ⟨?_, ?_⟩
  · rw [take_snoc hl, num_snoc, List.length_take, Nat.min_eq_left (by omega), Nat.mod_eq_of_lt hx]
    rcases Nat.lt_or_ge (lead s) 9 with h9 | h9
    · have h3 : (128 : Nat) ^ (lead s) ≤ 128 ^ 8 := Nat.pow_le_pow_right (by omega) (by omega)
      have h4 : s.getD (lead s) 0 * 128 ^ (lead s) ≤ 127 * 128 ^ 8 := Nat.mul_le_mul (by omega) h3
      omega
    · have h9' : lead s = 9 := by omega
      have h5 : s.getD (lead s) 0 ≤ 1 := by omega
      have h4 : s.getD (lead s) 0 * 128 ^ (lead s) ≤ 1 * 128 ^ 9 := Nat.mul_le_mul h5 (by rw [h9']; exact Nat.le_refl _)
      rw [h9'] at hn h4 ⊢
      omega
  · rw [take_snoc hl]
    refine vb_num _ _ (take_hi hs (Nat.le_refl _)) hx ?_
    by_cases h0 : lead s = 0
    · left; rw [h0]; rfl
    · right; omega
theorem not_canon {s : List Nat} (h10 : lead s < 10) (hl : lead s < s.length) (hb : vbad s (lead s)) :
    vb (num (s.take (lead s + 1)) % 18446744073709551616) ≠ s.take (lead s + 1) := by
  intro h
  have hx := lead_lo s hl
  have e := congrArg num h
  rw [num_vb] at e
  have hlen := congrArg List.length h
  rw [List.length_take, Nat.min_eq_left (by omega)] at hlen
  rcases hb with ⟨h0, hi⟩ | ⟨h9, h1⟩
  · have h2 : num (s.take (lead s + 1)) < 128 ^ lead s := by
      rw [take_snoc hl, h0, num_snoc]
      have := num_lt (s.take (lead s))
      rw [List.length_take, Nat.min_eq_left (by omega)] at this
      simpa using this
    rw [← e] at h2
    have := vb_len_le (lead s) _ hi h2
    omega
  · have h2 : 2 * 128 ^ 9 ≤ num (s.take (lead s + 1)) := by
      rw [take_snoc hl, num_snoc, List.length_take, Nat.min_eq_left (by omega), Nat.mod_eq_of_lt hx, h9]
      have : 2 * 128 ^ 9 ≤ s.getD 9 0 * 128 ^ 9 := Nat.mul_le_mul (by rw [h9] at h1; omega) (Nat.le_refl _)
      omega
    have h3 : num (s.take (lead s + 1)) % 18446744073709551616 < 18446744073709551616 := Nat.mod_lt _ (by omega)
    omega
theorem vtake_vb {n : Nat} (h : n < 18446744073709551616) (r : List Nat) : vtake (vb n ++ r) = (n, r, 0) := by
  have hl := lead_vb _ n r rfl
  have h10 := vb_length_le10 h
  have hp := vb_length_pos n
  have e1 : (vb n ++ r).take (lead (vb n ++ r) + 1) = vb n := by rw [hl, List.take_left]
  have hlt : lead (vb n ++ r) < (vb n ++ r).length := by rw [List.length_append]; omega
  unfold vtake
  rw [if_neg (by omega), if_neg (by omega), if_neg, hl, List.take_left, List.drop_left, num_vb]
  intro hb
  refine not_canon (by omega) hlt hb ?_
  rw [e1, num_vb, Nat.mod_eq_of_lt h]
theorem vtake_ok {s : List Nat} (hs : ∀ x ∈ s, x < 256) (h : (vtake s).2.2 = 0) : (vtake s).1 < 18446744073709551616 ∧ vb (vtake s).1 ++ (vtake s).2.1 = s := by
  unfold vtake at h ⊢
  by_cases h1 : 10 ≤ lead s
  · rw [if_pos h1] at h; exact absurd h (by simp)
  rw [if_neg h1] at h ⊢
  by_cases h2 : lead s = s.length
  · rw [if_pos h2] at h; exact absurd h (by simp)
  rw [if_neg h2] at h ⊢
  by_cases h3 : vbad s (lead s)
  · rw [if_pos h3] at h; exact absurd h (by simp)
  rw [if_neg h3]
  obtain ⟨c1, c2⟩ := canon hs (by omega) (Nat.lt_of_le_of_ne (lead_le s) h2) h3
  refine ⟨c1, ?_⟩
  rw [c2, List.take_append_drop]
theorem vtake_rest {s : List Nat} : (vtake s).2.1.length ≤ s.length ∧ ∀ x ∈ (vtake s).2.1, x ∈ s := by
  unfold vtake
  split
  · simp
  split
  · simp
  split
  · simp
  · refine ⟨by simp, fun x hx => List.mem_of_mem_drop hx⟩
theorem vtake_lt {s : List Nat} (hs : ∀ x ∈ s, x < 256) : (vtake s).1 < 18446744073709551616 := by
  unfold vtake
  split
  · simp
  split
  · simp
  split
  · simp
  · have := lead_le s
    exact (canon hs (by omega) (by omega) (by assumption)).1
def isLen (n l : Nat) : Prop := n < 2 ^ l ∧ (l = 0 ∨ 2 ^ (l - 1) ≤ n)
instance (n l : Nat) : Decidable (isLen n l) := by unfold isLen; infer_instance
theorem isLen_up {n l m : Nat} (hn : 2 ^ m ≤ n) (h : isLen (n / 2 ^ m) l) : isLen n (l + m) := by
  obtain ⟨h1, h2⟩ := h
  have hp : 0 < 2 ^ m := Nat.two_pow_pos m
  have hq : 1 ≤ n / 2 ^ m := (Nat.le_div_iff_mul_le hp).2 (by omega)
  have hl : l ≠ 0 := by
    intro h0
    rw [h0] at h1
    omega
  refine ⟨?_, Or.inr ?_⟩
  · rw [Nat.pow_add]; exact (Nat.div_lt_iff_lt_mul hp).1 h1
  · have h3 := h2.resolve_left hl
    rw [show l + m - 1 = (l - 1) + m by omega, Nat.pow_add]
    exact (Nat.le_div_iff_mul_le hp).1 h3
theorem isLen_vb {n l : Nat} (h : isLen n l) : ((vb n).length : Int) = if 1 < (l + 6) / 7 then (((l + 6) / 7 : Nat) : Int) else 1 := by
  obtain ⟨h1, h2⟩ := h
  have hle : n < 128 ^ ((l + 6) / 7) := by
    rw [show (128 : Nat) = 2 ^ 7 from rfl, ← Nat.pow_mul]
    exact Nat.lt_of_lt_of_le h1 (Nat.pow_le_pow_right (by omega) (by omega))
  split
  · next hs =>
    have hge : 128 ^ ((l + 6) / 7 - 1) ≤ n := by
      rw [show (128 : Nat) = 2 ^ 7 from rfl, ← Nat.pow_mul]
      exact Nat.le_trans (Nat.pow_le_pow_right (by omega) (by omega)) (h2.resolve_left (by omega))
    have a := vb_len_le _ n (by omega) hle
    have b := vb_len_ge _ n hge
    omega
  · next hs =>
    have h128 : n < 128 := by
      refine Nat.lt_of_lt_of_le hle ?_
      exact Nat.le_trans (Nat.pow_le_pow_right (by omega) (show (l + 6) / 7 ≤ 1 by omega)) (by simp)
    rw [vb_small h128]; rfl
def stp (c : Nat) : Nat := if c % 2 = 1 then (c / 2) ^^^ 3988292384 else c / 2
def ent (i : Nat) : Nat := stp (stp (stp (stp (stp (stp (stp (stp i)))))))
def tbl : List Nat := (List.range 256).map ent
def mor (t : List Nat) : Nat → List Nat → Nat
  | c, [] => c
  | c, x :: b => mor t (t.getD ((c % 256) ^^^ x) 0 ^^^ (c / 256)) b
def csum (t b : List Nat) : Nat := mor t 4294967295 b ^^^ 4294967295
theorem tbl_length : tbl.length = 256 := by simp [tbl]
theorem tbl_lt : ∀ x ∈ tbl, x < 4294967296 := by decide +kernel
theorem nxt_lt {t : List Nat} (ht : ∀ x ∈ t, x < 4294967296) (c x : Nat) (hc : c < 4294967296) : t.getD ((c % 256) ^^^ x) 0 ^^^ (c / 256) < 4294967296 :=
  xor_lt32 (getD_lt ht (by omega)) (by omega)
theorem mor_lt {t : List Nat} (ht : ∀ x ∈ t, x < 4294967296) : ∀ (b : List Nat) (c : Nat), c < 4294967296 → mor t c b < 4294967296
  | [], c, hc => hc
  | x :: b, c, hc => mor_lt ht b _ (nxt_lt ht c x hc)
theorem mor_append (t : List Nat) : ∀ (a b : List Nat) (c : Nat), mor t c (a ++ b) = mor t (mor t c a) b
  | [], b, c => rfl
  | x :: a, b, c => mor_append t a b _
theorem csum_lt {t : List Nat} (ht : ∀ x ∈ t, x < 4294967296) (b : List Nat) : csum t b < 4294967296 := xor_lt32 (mor_lt ht b _ (by omega)) (by omega)
theorem tbl_at {j : Nat} (h : j < 256) : tbl.getD j 0 = ent j := by
  simp only [tbl, List.getD_eq_getElem?_getD, List.getElem?_map, List.getElem?_range h, Option.map_some, Option.getD_some]
theorem xor_mod256 {c x : Nat} (hx : x < 256) : (c ^^^ x) % 256 = (c % 256) ^^^ x := by
  have := Nat.xor_mod_two_pow (a := c) (b := x) (n := 8)
  rw [show (2 : Nat) ^ 8 = 256 from rfl, Nat.mod_eq_of_lt hx] at this
  exact this
def four (c : Nat) : List Nat := [c % 256, c / 256 % 256, c / 65536 % 256, c / 16777216 % 256]
theorem four_lt (c : Nat) : ∀ x ∈ four c, x < 256 := by
  intro x hx
  simp only [four, List.mem_cons, List.not_mem_nil, or_false] at hx
  omega
theorem four_length (c : Nat) : (four c).length = 4 := rfl
def sealed (t b : List Nat) : List Nat := b ++ four (csum t b)
theorem sealed_length (t b : List Nat) : (sealed t b).length = b.length + 4 := by simp [sealed, four_length]
theorem sealed_lt (t : List Nat) {b : List Nat} (hb : ∀ x ∈ b, x < 256) : ∀ x ∈ sealed t b, x < 256 := by
  intro x hx
  rcases List.mem_append.1 hx with h | h
  · exact hb x h
  · exact four_lt _ x h
def opened (t s : List Nat) : List Nat × Nat := if s.length < 4 then ([], 2) else if four (csum t (s.take (s.length - 4))) = s.drop (s.length - 4) then (s.take (s.length - 4), 0) else ([], 4)
theorem open_sealed (t b : List Nat) : opened t (sealed t b) = (b, 0) := by
  unfold opened
  rw [sealed_length, if_neg (by omega), show b.length + 4 - 4 = b.length by omega]
  unfold sealed
  rw [List.take_left, List.drop_left, if_pos rfl]
/-- The lengths of bytes in bits. -/
def lenL : List Int := [0, 1, 2, 2, 3, 3, 3, 3, 4, 4, 4, 4, 4, 4, 4, 4, 5, 5, 5, 5, 5, 5, 5, 5, 5, 5, 5, 5, 5, 5, 5, 5, 6, 6, 6, 6, 6, 6, 6, 6, 6, 6, 6, 6, 6, 6, 6, 6, 6, 6, 6, 6, 6, 6, 6, 6, 6, 6, 6, 6, 6, 6, 6, 6, 7, 7, 7, 7, 7, 7, 7, 7, 7, 7, 7, 7, 7, 7, 7, 7, 7, 7, 7, 7, 7, 7, 7, 7, 7, 7, 7, 7, 7, 7, 7, 7, 7, 7, 7, 7, 7, 7, 7, 7, 7, 7, 7, 7, 7, 7, 7, 7, 7, 7, 7, 7, 7, 7, 7, 7, 7, 7, 7, 7, 7, 7, 7, 7, 8, 8, 8, 8, 8, 8, 8, 8, 8, 8, 8, 8, 8, 8, 8, 8, 8, 8, 8, 8, 8, 8, 8, 8, 8, 8, 8, 8, 8, 8, 8, 8, 8, 8, 8, 8, 8, 8, 8, 8, 8, 8, 8, 8, 8, 8, 8, 8, 8, 8, 8, 8, 8, 8, 8, 8, 8, 8, 8, 8, 8, 8, 8, 8, 8, 8, 8, 8, 8, 8, 8, 8, 8, 8, 8, 8, 8, 8, 8, 8, 8, 8, 8, 8, 8, 8, 8, 8, 8, 8, 8, 8, 8, 8, 8, 8, 8, 8, 8, 8, 8, 8, 8, 8, 8, 8, 8, 8, 8, 8, 8, 8, 8, 8, 8, 8, 8, 8, 8, 8, 8, 8, 8, 8, 8, 8, 8, 8]
theorem lenL_at : ∀ v ∈ List.range 256, ∃ l ∈ List.range 9, lenL[v]? = some (l : Int) ∧ isLen v l := by decide +kernel
def bl (n : Nat) : Nat := if n = 0 then 0 else bl (n / 2) + 1
termination_by n
decreasing_by omega
theorem isLen_bl (n : Nat) : isLen n (bl n) := by
  induction n using Nat.strongRecOn with
  | ind n ih =>
    by_cases h : n = 0
    · rw [bl, if_pos h, h]; exact ⟨by decide, .inl rfl⟩
    · rw [bl, if_neg h]
      by_cases h1 : n = 1
      · subst h1
        have e : bl (1 / 2) = 0 := by rw [bl]; rfl
        rw [e]; exact ⟨by decide, .inr (by decide)⟩
      · exact isLen_up (m := 1) (by omega) (by simpa using ih (n / 2) (by omega))
theorem isLen_unique {n a b : Nat} (ha : isLen n a) (hb : isLen n b) : a = b := by
  obtain ⟨a1, a2⟩ := ha
  obtain ⟨b1, b2⟩ := hb
  rcases Nat.lt_trichotomy a b with h | h | h
  · have h1 : 2 ^ a ≤ 2 ^ (b - 1) := Nat.pow_le_pow_right (by omega) (by omega)
    have := b2.resolve_left (by omega)
    omega
  · exact h
  · have h1 : 2 ^ b ≤ 2 ^ (a - 1) := Nat.pow_le_pow_right (by omega) (by omega)
    have := a2.resolve_left (by omega)
    omega
def u8 (n : Nat) : PV := .int .u8 n
def u32 (n : Nat) : PV := .int .u32 n
attribute [simp] u8 u32
/-- Bytes. -/
@[simp] abbrev bV (l : List Nat) (o : Bool) : PV := .lst 1 (l.map u8) o
end Go.Proofs.Ytkbdlgohmafglaa.E
/- The functions of this claim as operations on plain values. -/
namespace Go.Proofs.Ytkbdlgohmafglaa.E
open Go Go.RowKit Go.Proofs
set_option linter.unusedVariables false
set_option maxRecDepth 100000
def p2 : PFn :=
  ⟨1, [], .region [
     ⟨some 0, none, .callF 1 [] []⟩]⟩
theorem t2 : compF Try.prog {} 2 = some p2 := by kernel_rfl
def p3 : PFn :=
  ⟨111, [.t 4], .seq
    (.region [
      ⟨some 4, none, .mv true (.c (.bool false))⟩])
    (.seq
     (.region [
       ⟨some 14, none, .bsl 1 0 false [] [] false⟩,
       ⟨some 15, none, .bsl 1 0 false [] [] false⟩,
       ⟨some 5, none, .mv true (.t 14)⟩,
       ⟨some 6, none, .mv true (.t 15)⟩])
     (.seq
      (.seq
       (.region [
         ⟨some 7, none, .mv true (.c (.int .i64 0))⟩])
       (.block 0
        (.loop
         (.seq
          (.seq
           (.region [
             ⟨some 16, none, .mv false (.t 7)⟩,
             ⟨some 17, none, .mv false (.t 0)⟩,
             ⟨some 18, none, .len false (.t 17)⟩,
             ⟨some 19, none, .bin .lss (.t 16) (.t 18)⟩])
           (.cond (.t 19)
            .skip
            (.exit 0)))
          (.seq
           (.block 1
            (.seq
             (.seq
              (.region [
                ⟨some 22, none, .mv false (.t 7)⟩,
                ⟨some 23, none, .bin .eql (.t 22) (.c (.int .i64 60))⟩,
                ⟨some 24, none, .mv false (.t 23)⟩,
                ⟨some 25, some (24, false), .mv false (.t 5)⟩,
                ⟨some 26, some (24, false), .len false (.t 25)⟩,
                ⟨some 27, some (24, false), .mv false (.t 0)⟩,
                ⟨some 28, some (24, false), .mv false (.t 7)⟩,
                ⟨some 29, some (24, false), .iad 1 (.t 27) (.t 28)⟩,
                ⟨some 30, some (24, false), .ld 1 false false (.t 29)⟩,
                ⟨some 31, some (24, false), .len false (.t 30)⟩,
                ⟨some 32, some (24, false), .bin .add (.t 26) (.t 31)⟩,
                ⟨some 33, some (24, false), .bin .gtr (.t 32) (.c (.int .i64 800))⟩,
                ⟨some 34, none, .pick (.t 24) (.c (.bool true)) (.t 33)⟩])
              (.cond (.t 34)
               (.seq
                (.region [
                  ⟨some 35, none, .callF 7 [] []⟩,
                  ⟨some 4, none, .mv true (.t 35)⟩])
                .ret)
               .skip))
             (.seq
              (.region [
                ⟨some 36, none, .mv false (.t 5)⟩,
                ⟨some 37, none, .len false (.t 36)⟩,
                ⟨some 8, none, .mv true (.t 37)⟩])
              (.seq
               (.region [
                 ⟨some 39, none, .mv false (.t 6)⟩,
                 ⟨some 40, none, .mv false (.t 0)⟩,
                 ⟨some 41, none, .mv false (.t 7)⟩,
                 ⟨some 42, none, .iad 1 (.t 40) (.t 41)⟩,
                 ⟨some 43, none, .ld 1 false false (.t 42)⟩,
                 ⟨some 44, none, .callF 8 [.t 39, .t 43] []⟩,
                 ⟨some 38, none, .mv true (.t 44)⟩,
                 ⟨some 45, none, .ext true (.t 38) 0⟩,
                 ⟨some 46, none, .ext false (.t 38) 1⟩,
                 ⟨some 9, none, .mv true (.t 45)⟩,
                 ⟨some 10, none, .mv true (.t 46)⟩])
               (.seq
                (.seq
                 (.draw [
                   ⟨some 47, none, .mv false (.t 10)⟩,
                   ⟨some 48, none, .bin .neq (.t 47) (.c (.int .i64 0))⟩,
                   ⟨some 49, none, .mv false (.t 48)⟩,
                   ⟨some 50, some (49, false), .mv false (.t 9)⟩,
                   ⟨some 51, some (49, false), .callF 9 [.t 50] []⟩,
                   ⟨some 52, some (49, false), .mv false (.t 8)⟩,
                   ⟨some 53, some (49, false), .mv false (.t 0)⟩,
                   ⟨some 54, some (49, false), .mv false (.t 7)⟩,
                   ⟨some 55, some (49, false), .iad 1 (.t 53) (.t 54)⟩,
                   ⟨some 56, some (49, false), .ld 1 false false (.t 55)⟩,
                   ⟨some 57, some (49, false), .len false (.t 56)⟩,
                   ⟨some 58, some (49, false), .bin .add (.t 52) (.t 57)⟩,
                   ⟨some 59, some (49, false), .bin .neq (.t 51) (.t 58)⟩,
                   ⟨some 60, none, .pick (.t 49) (.c (.bool true)) (.t 59)⟩] [])
                 (.cond (.t 60)
                  (.seq
                   (.region [
                     ⟨some 4, none, .mv true (.c (.bool false))⟩])
                   .ret)
                  .skip))
                (.seq
                 (.region [
                   ⟨some 62, none, .mv false (.t 9)⟩,
                   ⟨some 63, none, .mv false (.t 8)⟩,
                   ⟨some 64, none, .callF 10 [.t 62, .c (.int .i64 0), .t 63] []⟩,
                   ⟨some 61, none, .mv true (.t 64)⟩,
                   ⟨some 65, none, .ext true (.t 61) 0⟩,
                   ⟨some 66, none, .ext false (.t 61) 1⟩,
                   ⟨some 11, none, .mv true (.t 65)⟩,
                   ⟨some 12, none, .mv true (.t 66)⟩])
                 (.seq
                  (.seq
                   (.region [
                     ⟨some 67, none, .mv false (.t 12)⟩,
                     ⟨some 68, none, .bin .neq (.t 67) (.c (.int .i64 0))⟩,
                     ⟨some 69, none, .mv false (.t 68)⟩,
                     ⟨some 70, some (69, false), .mv false (.t 11)⟩,
                     ⟨some 71, some (69, false), .cvS (.t 70)⟩,
                     ⟨some 72, some (69, false), .mv false (.t 5)⟩,
                     ⟨some 73, some (69, false), .cvS (.t 72)⟩,
                     ⟨some 74, some (69, false), .bin .neq (.t 71) (.t 73)⟩,
                     ⟨some 75, none, .pick (.t 69) (.c (.bool true)) (.t 74)⟩])
                   (.cond (.t 75)
                    (.seq
                     (.region [
                       ⟨some 4, none, .mv true (.c (.bool false))⟩])
                     .ret)
                    .skip))
                  (.seq
                   (.region [
                     ⟨some 76, none, .mv true (.t 5)⟩,
                     ⟨some 77, none, .mv false (.t 0)⟩,
                     ⟨some 78, none, .mv false (.t 7)⟩,
                     ⟨some 79, none, .iad 1 (.t 77) (.t 78)⟩,
                     ⟨some 80, none, .ld 1 false false (.t 79)⟩,
                     ⟨some 81, none, .app 1 1 (.t 76) (.t 80)⟩,
                     ⟨some 5, none, .mv true (.t 81)⟩])
                   (.region [
                     ⟨some 82, none, .mv true (.t 9)⟩,
                     ⟨some 6, none, .mv true (.t 82)⟩])))))))))
           (.region [
             ⟨some 20, none, .mv false (.t 7)⟩,
             ⟨some 21, none, .bin .add (.t 20) (.c (.int .i64 1))⟩,
             ⟨some 7, none, .mv true (.t 21)⟩]))))))
      (.seq
       (.region [
         ⟨some 83, none, .mv false (.t 1)⟩,
         ⟨some 84, none, .mm true (.t 83) (.c (.int .i64 0))⟩,
         ⟨some 85, none, .mm false (.t 84) (.c (.int .i64 1099511627776))⟩,
         ⟨some 13, none, .mv true (.t 85)⟩])
       (.seq
        (.draw [
          ⟨some 86, none, .callF 7 [] []⟩,
          ⟨some 87, none, .mv false (.t 86)⟩,
          ⟨some 88, some (87, true), .mv false (.t 6)⟩,
          ⟨some 89, some (87, true), .cvS (.t 88)⟩,
          ⟨some 90, some (87, true), .mv false (.t 5)⟩,
          ⟨some 91, some (87, true), .callF 11 [.t 90] []⟩,
          ⟨some 92, some (87, true), .cvS (.t 91)⟩,
          ⟨some 93, some (87, true), .bin .eql (.t 89) (.t 92)⟩,
          ⟨some 94, none, .pick (.t 87) (.t 93) (.c (.bool false))⟩,
          ⟨some 95, none, .mv false (.t 94)⟩,
          ⟨some 96, some (95, true), .mv false (.t 13)⟩,
          ⟨some 97, some (95, true), .callF 12 [.t 96] []⟩,
          ⟨some 98, some (95, true), .mv false (.t 13)⟩,
          ⟨some 99, some (95, true), .bin .add (.t 98) (.c (.int .i64 1))⟩,
          ⟨some 100, some (95, true), .callF 12 [.t 99] []⟩,
          ⟨some 101, some (95, true), .bin .lss (.t 97) (.t 100)⟩,
          ⟨some 102, none, .pick (.t 95) (.t 101) (.c (.bool false))⟩,
          ⟨some 103, none, .mv false (.t 102)⟩,
          ⟨some 104, some (103, true), .mv false (.t 6)⟩,
          ⟨some 105, some (103, true), .len false (.t 104)⟩,
          ⟨some 106, some (103, true), .mv false (.t 5)⟩,
          ⟨some 107, some (103, true), .len false (.t 106)⟩,
          ⟨some 108, some (103, true), .callF 12 [.t 107] []⟩,
          ⟨some 109, some (103, true), .bin .eql (.t 105) (.t 108)⟩,
          ⟨some 110, none, .pick (.t 103) (.t 109) (.c (.bool false))⟩,
          ⟨some 4, none, .mv true (.t 110)⟩] [])
        .ret))))⟩
theorem t3 : compF Try.prog {} 3 = some p3 := by kernel_rfl
def p4 : PFn :=
  ⟨103, [.t 6], .seq
    (.region [
      ⟨some 6, none, .mv true (.c (.bool false))⟩])
    (.seq
     (.seq
      (.region [
        ⟨some 12, none, .mv false (.t 0)⟩,
        ⟨some 13, none, .len false (.t 12)⟩,
        ⟨some 14, none, .bin .gtr (.t 13) (.c (.int .i64 800))⟩,
        ⟨some 15, none, .mv false (.t 14)⟩,
        ⟨some 16, some (15, false), .mv false (.t 2)⟩,
        ⟨some 17, some (15, false), .bin .eql (.t 16) (.c (.int .u8 0))⟩,
        ⟨some 18, none, .pick (.t 15) (.c (.bool true)) (.t 17)⟩])
      (.cond (.t 18)
       (.seq
        (.region [
          ⟨some 19, none, .callF 7 [] []⟩,
          ⟨some 6, none, .mv true (.t 19)⟩])
        .ret)
       .skip))
     (.seq
      (.region [
        ⟨some 20, none, .mv false (.t 0)⟩,
        ⟨some 21, none, .callF 11 [.t 20] []⟩,
        ⟨some 7, none, .mv true (.t 21)⟩])
      (.seq
       (.seq
        (.region [
          ⟨some 22, none, .mv false (.t 1)⟩,
          ⟨some 23, none, .bin .lss (.t 22) (.c (.int .i64 0))⟩,
          ⟨some 24, none, .mv false (.t 23)⟩,
          ⟨some 25, some (24, false), .mv false (.t 1)⟩,
          ⟨some 26, some (24, false), .mv false (.t 7)⟩,
          ⟨some 27, some (24, false), .len false (.t 26)⟩,
          ⟨some 28, some (24, false), .bin .geq (.t 25) (.t 27)⟩,
          ⟨some 29, none, .pick (.t 24) (.c (.bool true)) (.t 28)⟩])
        (.cond (.t 29)
         (.seq
          (.region [
            ⟨some 30, none, .callF 7 [] []⟩,
            ⟨some 6, none, .mv true (.t 30)⟩])
          .ret)
         .skip))
       (.seq
        (.region [
          ⟨some 31, none, .mv false (.t 7)⟩,
          ⟨some 32, none, .mv false (.t 1)⟩,
          ⟨some 33, none, .mv false (.t 7)⟩,
          ⟨some 34, none, .mv false (.t 1)⟩,
          ⟨some 35, none, .iad 1 (.t 33) (.t 34)⟩,
          ⟨some 36, none, .ld 1 false false (.t 35)⟩,
          ⟨some 37, none, .mv false (.t 2)⟩,
          ⟨some 38, none, .bin .xor (.t 36) (.t 37)⟩,
          ⟨some 39, none, .iad 1 (.t 31) (.t 32)⟩,
          ⟨none, none, .sto 1 (.t 39) (.t 38)⟩])
        (.seq
         (.region [
           ⟨some 40, none, .mv false (.t 7)⟩,
           ⟨some 41, none, .callF 13 [.t 40] []⟩,
           ⟨some 8, none, .mv true (.t 41)⟩])
         (.seq
          (.seq
           (.region [
             ⟨some 42, none, .mv false (.t 8)⟩,
             ⟨some 43, none, .len false (.t 42)⟩,
             ⟨some 44, none, .bin .neq (.t 43) (.c (.int .i64 1))⟩,
             ⟨some 45, none, .mv false (.t 44)⟩,
             ⟨some 46, some (45, false), .mv false (.t 8)⟩,
             ⟨some 47, some (45, false), .iad 1 (.t 46) (.c (.int .i64 0))⟩,
             ⟨some 48, some (45, false), .ld 1 false false (.t 47)⟩,
             ⟨some 49, some (45, false), .mv false (.t 1)⟩,
             ⟨some 50, some (45, false), .bin .quo (.t 49) (.c (.int .i64 68))⟩,
             ⟨some 51, some (45, false), .bin .neq (.t 48) (.t 50)⟩,
             ⟨some 52, none, .pick (.t 45) (.c (.bool true)) (.t 51)⟩])
           (.cond (.t 52)
            (.seq
             (.region [
               ⟨some 6, none, .mv true (.c (.bool false))⟩])
             .ret)
            .skip))
          (.seq
           (.seq
            (.region [
              ⟨some 9, none, .mv true (.c (.int .i64 0))⟩])
            (.block 0
             (.loop
              (.seq
               (.seq
                (.region [
                  ⟨some 53, none, .mv false (.t 9)⟩,
                  ⟨some 54, none, .mv false (.t 0)⟩,
                  ⟨some 55, none, .len false (.t 54)⟩,
                  ⟨some 56, none, .bin .lss (.t 53) (.t 55)⟩])
                (.cond (.t 56)
                 .skip
                 (.exit 0)))
               (.seq
                (.block 1
                 (.seq
                  (.region [
                    ⟨some 60, none, .mv false (.t 7)⟩,
                    ⟨some 61, none, .mv false (.t 9)⟩,
                    ⟨some 62, none, .callF 10 [.t 60, .t 61, .c (.int .i64 1)] []⟩,
                    ⟨some 59, none, .mv true (.t 62)⟩,
                    ⟨some 63, none, .ext true (.t 59) 0⟩,
                    ⟨some 64, none, .ext false (.t 59) 1⟩,
                    ⟨some 10, none, .mv true (.t 63)⟩,
                    ⟨some 11, none, .mv true (.t 64)⟩])
                  (.seq
                   (.draw [
                     ⟨some 65, none, .mv false (.t 9)⟩,
                     ⟨some 66, none, .bin .quo (.t 65) (.c (.int .i64 64))⟩,
                     ⟨some 67, none, .mv false (.t 8)⟩,
                     ⟨some 68, none, .iad 1 (.t 67) (.c (.int .i64 0))⟩,
                     ⟨some 69, none, .ld 1 false false (.t 68)⟩,
                     ⟨some 70, none, .bin .eql (.t 66) (.t 69)⟩,
                     ⟨some 71, none, .mv false (.t 70)⟩,
                     ⟨some 72, some (71, true), .mv false (.t 11)⟩,
                     ⟨some 73, some (71, true), .bin .neq (.t 72) (.c (.int .i64 16))⟩,
                     ⟨some 74, none, .pick (.t 71) (.t 73) (.c (.bool false))⟩,
                     ⟨some 75, none, .mv false (.t 74)⟩,
                     ⟨some 76, some (75, false), .mv false (.t 9)⟩,
                     ⟨some 77, some (75, false), .bin .quo (.t 76) (.c (.int .i64 64))⟩,
                     ⟨some 78, some (75, false), .mv false (.t 8)⟩,
                     ⟨some 79, some (75, false), .iad 1 (.t 78) (.c (.int .i64 0))⟩,
                     ⟨some 80, some (75, false), .ld 1 false false (.t 79)⟩,
                     ⟨some 81, some (75, false), .bin .neq (.t 77) (.t 80)⟩,
                     ⟨some 82, some (75, false), .mv false (.t 81)⟩,
                     ⟨some 83, some (82, true), .mv false (.t 11)⟩,
                     ⟨some 84, some (82, true), .bin .neq (.t 83) (.c (.int .i64 0))⟩,
                     ⟨some 85, some (82, true), .mv false (.t 84)⟩,
                     ⟨some 86, some (85, false), .mv false (.t 10)⟩,
                     ⟨some 87, some (85, false), .len false (.t 86)⟩,
                     ⟨some 88, some (85, false), .bin .neq (.t 87) (.c (.int .i64 1))⟩,
                     ⟨some 89, some (82, true), .pick (.t 85) (.c (.bool true)) (.t 88)⟩,
                     ⟨some 90, some (82, true), .mv false (.t 89)⟩,
                     ⟨some 91, some (90, false), .mv false (.t 10)⟩,
                     ⟨some 92, some (90, false), .iad 1 (.t 91) (.c (.int .i64 0))⟩,
                     ⟨some 93, some (90, false), .ld 1 false false (.t 92)⟩,
                     ⟨some 94, some (90, false), .mv false (.t 0)⟩,
                     ⟨some 95, some (90, false), .mv false (.t 9)⟩,
                     ⟨some 96, some (90, false), .iad 1 (.t 94) (.t 95)⟩,
                     ⟨some 97, some (90, false), .ld 1 false false (.t 96)⟩,
                     ⟨some 98, some (90, false), .bin .neq (.t 93) (.t 97)⟩,
                     ⟨some 99, some (82, true), .pick (.t 90) (.c (.bool true)) (.t 98)⟩,
                     ⟨some 100, some (75, false), .pick (.t 82) (.t 99) (.c (.bool false))⟩,
                     ⟨some 101, none, .pick (.t 75) (.c (.bool true)) (.t 100)⟩] [])
                   (.cond (.t 101)
                    (.seq
                     (.region [
                       ⟨some 6, none, .mv true (.c (.bool false))⟩])
                     .ret)
                    .skip))))
                (.region [
                  ⟨some 57, none, .mv false (.t 9)⟩,
                  ⟨some 58, none, .bin .add (.t 57) (.c (.int .i64 1))⟩,
                  ⟨some 9, none, .mv true (.t 58)⟩]))))))
           (.seq
            (.region [
              ⟨some 102, none, .callF 7 [] []⟩,
              ⟨some 6, none, .mv true (.t 102)⟩])
            .ret))))))))⟩
theorem t4 : compF Try.prog {} 4 = some p4 := by kernel_rfl
def p5 : PFn :=
  ⟨88, [.t 6], .seq
    (.region [
      ⟨some 6, none, .mv true (.c (.bool false))⟩])
    (.seq
     (.seq
      (.region [
        ⟨some 12, none, .mv false (.t 0)⟩,
        ⟨some 13, none, .len false (.t 12)⟩,
        ⟨some 14, none, .bin .gtr (.t 13) (.c (.int .i64 800))⟩,
        ⟨some 15, none, .mv false (.t 14)⟩,
        ⟨some 16, some (15, false), .mv false (.t 1)⟩,
        ⟨some 17, some (15, false), .len false (.t 16)⟩,
        ⟨some 18, some (15, false), .bin .gtr (.t 17) (.c (.int .i64 800))⟩,
        ⟨some 19, none, .pick (.t 15) (.c (.bool true)) (.t 18)⟩,
        ⟨some 20, none, .mv false (.t 19)⟩,
        ⟨some 21, some (20, false), .mv false (.t 2)⟩,
        ⟨some 22, some (20, false), .bin .gtr (.t 21) (.c (.int .i64 1099511627776))⟩,
        ⟨some 23, none, .pick (.t 20) (.c (.bool true)) (.t 22)⟩])
      (.cond (.t 23)
       (.seq
        (.region [
          ⟨some 24, none, .callF 7 [] []⟩,
          ⟨some 6, none, .mv true (.t 24)⟩])
        .ret)
       .skip))
     (.seq
      (.region [
        ⟨some 25, none, .bsl 1 0 false [] [] false⟩,
        ⟨some 26, none, .mv false (.t 1)⟩,
        ⟨some 27, none, .app 1 1 (.t 25) (.t 26)⟩,
        ⟨some 7, none, .mv true (.t 27)⟩])
      (.seq
       (.region [
         ⟨some 29, none, .mv false (.t 7)⟩,
         ⟨some 30, none, .callF 14 [.t 29] []⟩,
         ⟨some 28, none, .mv true (.t 30)⟩,
         ⟨some 31, none, .ext true (.t 28) 0⟩,
         ⟨some 32, none, .ext false (.t 28) 1⟩,
         ⟨some 8, none, .mv true (.t 31)⟩,
         ⟨some 9, none, .mv true (.t 32)⟩])
       (.seq
        (.region [
          ⟨some 34, none, .mv false (.t 1)⟩,
          ⟨some 35, none, .callF 15 [.t 34] []⟩,
          ⟨some 33, none, .mv true (.t 35)⟩,
          ⟨some 36, none, .ext true (.t 33) 0⟩,
          ⟨some 37, none, .ext false (.t 33) 1⟩,
          ⟨some 10, none, .mv true (.t 36)⟩,
          ⟨some 11, none, .mv true (.t 37)⟩])
        (.seq
         (.draw [
           ⟨some 38, none, .callF 7 [] []⟩,
           ⟨some 39, none, .mv false (.t 38)⟩,
           ⟨some 40, some (39, true), .mv false (.t 0)⟩,
           ⟨some 41, some (39, true), .callF 11 [.t 40] []⟩,
           ⟨some 42, some (39, true), .cvS (.t 41)⟩,
           ⟨some 43, some (39, true), .mv false (.t 0)⟩,
           ⟨some 44, some (39, true), .callF 16 [.t 43] []⟩,
           ⟨some 45, some (39, true), .cvS (.t 44)⟩,
           ⟨some 46, some (39, true), .bin .eql (.t 42) (.t 45)⟩,
           ⟨some 47, none, .pick (.t 39) (.t 46) (.c (.bool false))⟩,
           ⟨some 48, none, .mv false (.t 47)⟩,
           ⟨some 49, some (48, true), .mv false (.t 8)⟩,
           ⟨some 50, some (48, true), .cvS (.t 49)⟩,
           ⟨some 51, some (48, true), .mv false (.t 10)⟩,
           ⟨some 52, some (48, true), .cvS (.t 51)⟩,
           ⟨some 53, some (48, true), .bin .eql (.t 50) (.t 52)⟩,
           ⟨some 54, none, .pick (.t 48) (.t 53) (.c (.bool false))⟩,
           ⟨some 55, none, .mv false (.t 54)⟩,
           ⟨some 56, some (55, true), .mv false (.t 9)⟩,
           ⟨some 57, some (55, true), .mv false (.t 11)⟩,
           ⟨some 58, some (55, true), .bin .eql (.t 56) (.t 57)⟩,
           ⟨some 59, none, .pick (.t 55) (.t 58) (.c (.bool false))⟩,
           ⟨some 60, none, .mv false (.t 59)⟩,
           ⟨some 61, some (60, true), .mv false (.t 7)⟩,
           ⟨some 62, some (60, true), .callF 9 [.t 61] []⟩,
           ⟨some 63, some (60, true), .mv false (.t 1)⟩,
           ⟨some 64, some (60, true), .callF 17 [.t 63] []⟩,
           ⟨some 65, some (60, true), .bin .eql (.t 62) (.t 64)⟩,
           ⟨some 66, none, .pick (.t 60) (.t 65) (.c (.bool false))⟩,
           ⟨some 67, none, .mv false (.t 66)⟩,
           ⟨some 68, some (67, true), .mv false (.t 7)⟩,
           ⟨some 69, some (67, true), .callF 13 [.t 68] []⟩,
           ⟨some 70, some (67, true), .mv false (.t 1)⟩,
           ⟨some 71, some (67, true), .callF 19 [.t 70] []⟩,
           ⟨some 72, some (67, true), .callF 18 [.t 69, .t 71] []⟩,
           ⟨some 73, none, .pick (.t 67) (.t 72) (.c (.bool false))⟩,
           ⟨some 74, none, .mv false (.t 73)⟩,
           ⟨some 75, some (74, true), .mv false (.t 2)⟩,
           ⟨some 76, some (74, true), .callF 12 [.t 75] []⟩,
           ⟨some 77, some (74, true), .mv false (.t 2)⟩,
           ⟨some 78, some (74, true), .callF 20 [.t 77] []⟩,
           ⟨some 79, some (74, true), .bin .eql (.t 76) (.t 78)⟩,
           ⟨some 80, none, .pick (.t 74) (.t 79) (.c (.bool false))⟩,
           ⟨some 81, none, .mv false (.t 80)⟩,
           ⟨some 82, some (81, true), .mv false (.t 7)⟩,
           ⟨some 83, some (81, true), .cvS (.t 82)⟩,
           ⟨some 84, some (81, true), .mv false (.t 1)⟩,
           ⟨some 85, some (81, true), .cvS (.t 84)⟩,
           ⟨some 86, some (81, true), .bin .eql (.t 83) (.t 85)⟩,
           ⟨some 87, none, .pick (.t 81) (.t 86) (.c (.bool false))⟩,
           ⟨some 6, none, .mv true (.t 87)⟩] [])
         .ret)))))⟩
theorem t5 : compF Try.prog {} 5 = some p5 := by kernel_rfl
def p6 : PFn :=
  ⟨115, [.t 6], .seq
    (.region [
      ⟨some 6, none, .mv true (.c (.bool false))⟩])
    (.seq
     (.seq
      (.region [
        ⟨some 14, none, .mv false (.t 0)⟩,
        ⟨some 15, none, .len false (.t 14)⟩,
        ⟨some 16, none, .bin .gtr (.t 15) (.c (.int .i64 800))⟩])
      (.cond (.t 16)
       (.seq
        (.region [
          ⟨some 17, none, .callF 7 [] []⟩,
          ⟨some 6, none, .mv true (.t 17)⟩])
        .ret)
       .skip))
     (.seq
      (.region [
        ⟨some 18, none, .mv false (.t 0)⟩,
        ⟨some 19, none, .callF 11 [.t 18] []⟩,
        ⟨some 7, none, .mv true (.t 19)⟩])
      (.seq
       (.region [
         ⟨some 21, none, .mv false (.t 7)⟩,
         ⟨some 22, none, .callF 14 [.t 21] []⟩,
         ⟨some 20, none, .mv true (.t 22)⟩,
         ⟨some 23, none, .ext true (.t 20) 0⟩,
         ⟨some 24, none, .ext false (.t 20) 1⟩,
         ⟨some 8, none, .mv true (.t 23)⟩,
         ⟨some 9, none, .mv true (.t 24)⟩])
       (.seq
        (.seq
         (.region [
           ⟨some 25, none, .mv false (.t 9)⟩,
           ⟨some 26, none, .bin .neq (.t 25) (.c (.int .i64 0))⟩,
           ⟨some 27, none, .mv false (.t 26)⟩,
           ⟨some 28, some (27, false), .mv false (.t 8)⟩,
           ⟨some 29, some (27, false), .cvS (.t 28)⟩,
           ⟨some 30, some (27, false), .mv false (.t 0)⟩,
           ⟨some 31, some (27, false), .cvS (.t 30)⟩,
           ⟨some 32, some (27, false), .bin .neq (.t 29) (.t 31)⟩,
           ⟨some 33, none, .pick (.t 27) (.c (.bool true)) (.t 32)⟩,
           ⟨some 34, none, .mv false (.t 33)⟩,
           ⟨some 35, some (34, false), .mv false (.t 7)⟩,
           ⟨some 36, some (34, false), .callF 13 [.t 35] []⟩,
           ⟨some 37, some (34, false), .len false (.t 36)⟩,
           ⟨some 38, some (34, false), .bin .gtr (.t 37) (.c (.int .i64 0))⟩,
           ⟨some 39, none, .pick (.t 34) (.c (.bool true)) (.t 38)⟩,
           ⟨some 40, none, .mv false (.t 39)⟩,
           ⟨some 41, some (40, false), .mv false (.t 7)⟩,
           ⟨some 42, some (40, false), .callF 9 [.t 41] []⟩,
           ⟨some 43, some (40, false), .mv false (.t 0)⟩,
           ⟨some 44, some (40, false), .len false (.t 43)⟩,
           ⟨some 45, some (40, false), .bin .neq (.t 42) (.t 44)⟩,
           ⟨some 46, none, .pick (.t 40) (.c (.bool true)) (.t 45)⟩,
           ⟨some 47, none, .mv false (.t 46)⟩,
           ⟨some 48, some (47, false), .mv false (.t 7)⟩,
           ⟨some 49, some (47, false), .len false (.t 48)⟩,
           ⟨some 50, some (47, false), .mv false (.t 0)⟩,
           ⟨some 51, some (47, false), .len false (.t 50)⟩,
           ⟨some 52, some (47, false), .callF 12 [.t 51] []⟩,
           ⟨some 53, some (47, false), .bin .neq (.t 49) (.t 52)⟩,
           ⟨some 54, none, .pick (.t 47) (.c (.bool true)) (.t 53)⟩])
         (.cond (.t 54)
          (.seq
           (.region [
             ⟨some 6, none, .mv true (.c (.bool false))⟩])
           .ret)
          .skip))
        (.seq
         (.seq
          (.region [
            ⟨some 55, none, .mv false (.t 1)⟩,
            ⟨some 56, none, .bin .lss (.t 55) (.c (.int .i64 0))⟩,
            ⟨some 57, none, .mv false (.t 56)⟩,
            ⟨some 58, some (57, false), .mv false (.t 1)⟩,
            ⟨some 59, some (57, false), .mv false (.t 2)⟩,
            ⟨some 60, some (57, false), .bin .gtr (.t 58) (.t 59)⟩,
            ⟨some 61, none, .pick (.t 57) (.c (.bool true)) (.t 60)⟩,
            ⟨some 62, none, .mv false (.t 61)⟩,
            ⟨some 63, some (62, false), .mv false (.t 2)⟩,
            ⟨some 64, some (62, false), .mv false (.t 0)⟩,
            ⟨some 65, some (62, false), .len false (.t 64)⟩,
            ⟨some 66, some (62, false), .bin .gtr (.t 63) (.t 65)⟩,
            ⟨some 67, none, .pick (.t 62) (.c (.bool true)) (.t 66)⟩])
          (.cond (.t 67)
           (.seq
            (.region [
              ⟨some 68, none, .callF 7 [] []⟩,
              ⟨some 6, none, .mv true (.t 68)⟩])
            .ret)
           .skip))
         (.seq
          (.region [
            ⟨some 70, none, .mv false (.t 7)⟩,
            ⟨some 71, none, .mv false (.t 1)⟩,
            ⟨some 72, none, .mv false (.t 2)⟩,
            ⟨some 73, none, .mv false (.t 1)⟩,
            ⟨some 74, none, .bin .sub (.t 72) (.t 73)⟩,
            ⟨some 75, none, .callF 10 [.t 70, .t 71, .t 74] []⟩,
            ⟨some 69, none, .mv true (.t 75)⟩,
            ⟨some 76, none, .ext true (.t 69) 0⟩,
            ⟨some 77, none, .ext false (.t 69) 1⟩,
            ⟨some 10, none, .mv true (.t 76)⟩,
            ⟨some 11, none, .mv true (.t 77)⟩])
          (.seq
           (.draw [
             ⟨some 79, none, .mv false (.t 0)⟩,
             ⟨some 80, none, .mv false (.t 1)⟩,
             ⟨some 81, none, .sli 1 (.t 79) none (some (.t 80)) none⟩,
             ⟨some 82, none, .callF 11 [.t 81] []⟩,
             ⟨some 83, none, .mv false (.t 0)⟩,
             ⟨some 84, none, .mv false (.t 1)⟩,
             ⟨some 85, none, .sli 1 (.t 83) (some (.t 84)) none none⟩,
             ⟨some 86, none, .callF 8 [.t 82, .t 85] []⟩,
             ⟨some 78, none, .mv true (.t 86)⟩,
             ⟨some 87, none, .ext true (.t 78) 0⟩,
             ⟨some 88, none, .ext false (.t 78) 1⟩,
             ⟨some 12, none, .mv true (.t 87)⟩,
             ⟨some 13, none, .mv true (.t 88)⟩] [])
           (.seq
            (.draw [
              ⟨some 89, none, .callF 7 [] []⟩,
              ⟨some 90, none, .mv false (.t 89)⟩,
              ⟨some 91, some (90, true), .mv false (.t 11)⟩,
              ⟨some 92, some (90, true), .bin .eql (.t 91) (.c (.int .i64 0))⟩,
              ⟨some 93, none, .pick (.t 90) (.t 92) (.c (.bool false))⟩,
              ⟨some 94, none, .mv false (.t 93)⟩,
              ⟨some 95, some (94, true), .mv false (.t 10)⟩,
              ⟨some 96, some (94, true), .cvS (.t 95)⟩,
              ⟨some 97, some (94, true), .mv false (.t 0)⟩,
              ⟨some 98, some (94, true), .mv false (.t 1)⟩,
              ⟨some 99, some (94, true), .mv false (.t 2)⟩,
              ⟨some 100, some (94, true), .sli 1 (.t 97) (some (.t 98)) (some (.t 99)) none⟩,
              ⟨some 101, some (94, true), .cvS (.t 100)⟩,
              ⟨some 102, some (94, true), .bin .eql (.t 96) (.t 101)⟩,
              ⟨some 103, none, .pick (.t 94) (.t 102) (.c (.bool false))⟩,
              ⟨some 104, none, .mv false (.t 103)⟩,
              ⟨some 105, some (104, true), .mv false (.t 13)⟩,
              ⟨some 106, some (104, true), .bin .eql (.t 105) (.c (.int .i64 0))⟩,
              ⟨some 107, none, .pick (.t 104) (.t 106) (.c (.bool false))⟩,
              ⟨some 108, none, .mv false (.t 107)⟩,
              ⟨some 109, some (108, true), .mv false (.t 12)⟩,
              ⟨some 110, some (108, true), .cvS (.t 109)⟩,
              ⟨some 111, some (108, true), .mv false (.t 7)⟩,
              ⟨some 112, some (108, true), .cvS (.t 111)⟩,
              ⟨some 113, some (108, true), .bin .eql (.t 110) (.t 112)⟩,
              ⟨some 114, none, .pick (.t 108) (.t 113) (.c (.bool false))⟩,
              ⟨some 6, none, .mv true (.t 114)⟩] [])
            .ret))))))))⟩
theorem t6 : compF Try.prog {} 6 = some p6 := by kernel_rfl
def p7 : PFn :=
  ⟨43, [.t 0], .seq
    (.region [
      ⟨some 0, none, .mv true (.c (.bool false))⟩])
    (.seq
     (.region [
       ⟨some 6, none, .mk 1 1 false [.int .u8 0] (.c (.int .i64 65)) (.c (.int .i64 65)) false⟩,
       ⟨some 7, none, .callF 11 [.t 6] []⟩,
       ⟨some 1, none, .mv true (.t 7)⟩])
     (.seq
      (.region [
        ⟨some 9, none, .mv false (.t 1)⟩,
        ⟨some 10, none, .callF 10 [.t 9, .c (.int .i64 64), .c (.int .i64 1)] []⟩,
        ⟨some 8, none, .mv true (.t 10)⟩,
        ⟨some 11, none, .ext true (.t 8) 0⟩,
        ⟨some 12, none, .ext false (.t 8) 1⟩,
        ⟨some 2, none, .mv true (.t 11)⟩,
        ⟨some 3, none, .mv true (.t 12)⟩])
      (.seq
       (.region [
         ⟨some 14, none, .mv false (.t 1)⟩,
         ⟨some 15, none, .callF 10 [.t 14, .c (.int .i64 64), .c (.int .i64 2)] []⟩,
         ⟨some 13, none, .mv true (.t 15)⟩,
         ⟨some 16, none, .ext true (.t 13) 0⟩,
         ⟨some 17, none, .ext false (.t 13) 1⟩,
         ⟨some 4, none, .mv true (.t 16)⟩,
         ⟨some 5, none, .mv true (.t 17)⟩])
       (.seq
        (.region [
          ⟨some 18, none, .mv false (.t 1)⟩,
          ⟨some 19, none, .len false (.t 18)⟩,
          ⟨some 20, none, .bin .eql (.t 19) (.c (.int .i64 73))⟩,
          ⟨some 21, none, .mv false (.t 20)⟩,
          ⟨some 22, some (21, true), .callF 12 [.c (.int .i64 65)] []⟩,
          ⟨some 23, some (21, true), .bin .eql (.t 22) (.c (.int .i64 73))⟩,
          ⟨some 24, none, .pick (.t 21) (.t 23) (.c (.bool false))⟩,
          ⟨some 25, none, .mv false (.t 24)⟩,
          ⟨some 26, some (25, true), .mv false (.t 1)⟩,
          ⟨some 27, some (25, true), .callF 9 [.t 26] []⟩,
          ⟨some 28, some (25, true), .bin .eql (.t 27) (.c (.int .i64 65))⟩,
          ⟨some 29, none, .pick (.t 25) (.t 28) (.c (.bool false))⟩,
          ⟨some 30, none, .mv false (.t 29)⟩,
          ⟨some 31, some (30, true), .mv false (.t 3)⟩,
          ⟨some 32, some (30, true), .bin .eql (.t 31) (.c (.int .i64 0))⟩,
          ⟨some 33, none, .pick (.t 30) (.t 32) (.c (.bool false))⟩,
          ⟨some 34, none, .mv false (.t 33)⟩,
          ⟨some 35, some (34, true), .mv false (.t 2)⟩,
          ⟨some 36, some (34, true), .len false (.t 35)⟩,
          ⟨some 37, some (34, true), .bin .eql (.t 36) (.c (.int .i64 1))⟩,
          ⟨some 38, none, .pick (.t 34) (.t 37) (.c (.bool false))⟩,
          ⟨some 39, none, .mv false (.t 38)⟩,
          ⟨some 40, some (39, true), .mv false (.t 5)⟩,
          ⟨some 41, some (39, true), .bin .eql (.t 40) (.c (.int .i64 1))⟩,
          ⟨some 42, none, .pick (.t 39) (.t 41) (.c (.bool false))⟩,
          ⟨some 0, none, .mv true (.t 42)⟩])
        .ret))))⟩
theorem t7 : compF Try.prog {} 7 = some p7 := by kernel_rfl
def p8 : PFn :=
  ⟨35, [.t 4, .t 5], .seq
    (.region [
      ⟨some 4, none, .mv true (.c (.lst 0 [] true))⟩,
      ⟨some 5, none, .mv true (.c (.int .i64 0))⟩])
    (.seq
     (.region [
       ⟨some 9, none, .mv false (.t 0)⟩,
       ⟨some 10, none, .len false (.t 9)⟩,
       ⟨some 11, none, .bin .sub (.t 10) (.c (.int .i64 1))⟩,
       ⟨some 12, none, .mm true (.c (.int .i64 0)) (.t 11)⟩,
       ⟨some 13, none, .bin .quo (.t 12) (.c (.int .i64 68))⟩,
       ⟨some 14, none, .bin .mul (.t 13) (.c (.int .i64 68))⟩,
       ⟨some 6, none, .mv true (.t 14)⟩])
     (.seq
      (.region [
        ⟨some 16, none, .mv false (.t 0)⟩,
        ⟨some 17, none, .mv false (.t 6)⟩,
        ⟨some 18, none, .sli 1 (.t 16) (some (.t 17)) none none⟩,
        ⟨some 19, none, .callF 21 [.t 18] []⟩,
        ⟨some 15, none, .mv true (.t 19)⟩,
        ⟨some 20, none, .ext true (.t 15) 0⟩,
        ⟨some 21, none, .ext false (.t 15) 1⟩,
        ⟨some 7, none, .mv true (.t 20)⟩,
        ⟨some 8, none, .mv true (.t 21)⟩])
      (.seq
       (.seq
        (.region [
          ⟨some 22, none, .mv false (.t 8)⟩,
          ⟨some 23, none, .bin .neq (.t 22) (.c (.int .i64 0))⟩])
        (.cond (.t 23)
         (.seq
          (.region [
            ⟨some 24, none, .mv true (.t 8)⟩,
            ⟨some 4, none, .mv true (.c (.lst 0 [] true))⟩,
            ⟨some 5, none, .mv true (.t 24)⟩])
          .ret)
         .skip))
       (.seq
        (.draw [
          ⟨some 25, none, .mv false (.t 0)⟩,
          ⟨some 26, none, .mv false (.t 6)⟩,
          ⟨some 27, none, .mv false (.t 6)⟩,
          ⟨some 28, none, .sli 1 (.t 25) none (some (.t 26)) (some (.t 27))⟩,
          ⟨some 29, none, .mv false (.t 7)⟩,
          ⟨some 30, none, .mv false (.t 1)⟩,
          ⟨some 31, none, .bsl 1 2 false [.lst 0 [] true, .lst 0 [] true] [(0, .t 29), (1, .t 30)] false⟩,
          ⟨some 32, none, .callF 22 [.t 31] []⟩,
          ⟨some 33, none, .callF 11 [.t 32] []⟩,
          ⟨some 34, none, .app 1 1 (.t 28) (.t 33)⟩,
          ⟨some 4, none, .mv true (.t 34)⟩,
          ⟨some 5, none, .mv true (.c (.int .i64 0))⟩] [])
        .ret))))⟩
theorem t8 : compF Try.prog {} 8 = some p8 := by kernel_rfl
def p9 : PFn :=
  ⟨17, [.t 2], .seq
    (.region [
      ⟨some 2, none, .mv true (.c (.int .i64 0))⟩])
    (.seq
     (.region [
       ⟨some 5, none, .mv false (.t 0)⟩,
       ⟨some 6, none, .len false (.t 5)⟩,
       ⟨some 7, none, .bin .quo (.t 6) (.c (.int .i64 68))⟩,
       ⟨some 8, none, .mv false (.t 0)⟩,
       ⟨some 9, none, .len false (.t 8)⟩,
       ⟨some 10, none, .bin .rem (.t 9) (.c (.int .i64 68))⟩,
       ⟨some 3, none, .mv true (.t 7)⟩,
       ⟨some 4, none, .mv true (.t 10)⟩])
     (.seq
      (.region [
        ⟨some 11, none, .mv false (.t 3)⟩,
        ⟨some 12, none, .bin .mul (.t 11) (.c (.int .i64 64))⟩,
        ⟨some 13, none, .mv false (.t 4)⟩,
        ⟨some 14, none, .bin .sub (.t 13) (.c (.int .i64 4))⟩,
        ⟨some 15, none, .mm true (.c (.int .i64 0)) (.t 14)⟩,
        ⟨some 16, none, .bin .add (.t 12) (.t 15)⟩,
        ⟨some 2, none, .mv true (.t 16)⟩])
      .ret))⟩
theorem t9 : compF Try.prog {} 9 = some p9 := by kernel_rfl
def p10 : PFn :=
  ⟨70, [.t 6, .t 7], .seq
    (.region [
      ⟨some 6, none, .mv true (.c (.lst 0 [] true))⟩,
      ⟨some 7, none, .mv true (.c (.int .i64 0))⟩])
    (.seq
     (.region [
       ⟨some 14, none, .mv false (.t 0)⟩,
       ⟨some 15, none, .callF 9 [.t 14] []⟩,
       ⟨some 8, none, .mv true (.t 15)⟩])
     (.seq
      (.seq
       (.region [
         ⟨some 16, none, .mv false (.t 1)⟩,
         ⟨some 17, none, .bin .lss (.t 16) (.c (.int .i64 0))⟩,
         ⟨some 18, none, .mv false (.t 17)⟩,
         ⟨some 19, some (18, false), .mv false (.t 2)⟩,
         ⟨some 20, some (18, false), .bin .lss (.t 19) (.c (.int .i64 0))⟩,
         ⟨some 21, none, .pick (.t 18) (.c (.bool true)) (.t 20)⟩,
         ⟨some 22, none, .mv false (.t 21)⟩,
         ⟨some 23, some (22, false), .mv false (.t 1)⟩,
         ⟨some 24, some (22, false), .mv false (.t 8)⟩,
         ⟨some 25, some (22, false), .bin .gtr (.t 23) (.t 24)⟩,
         ⟨some 26, none, .pick (.t 22) (.c (.bool true)) (.t 25)⟩,
         ⟨some 27, none, .mv false (.t 26)⟩,
         ⟨some 28, some (27, false), .mv false (.t 2)⟩,
         ⟨some 29, some (27, false), .mv false (.t 8)⟩,
         ⟨some 30, some (27, false), .mv false (.t 1)⟩,
         ⟨some 31, some (27, false), .bin .sub (.t 29) (.t 30)⟩,
         ⟨some 32, some (27, false), .bin .gtr (.t 28) (.t 31)⟩,
         ⟨some 33, none, .pick (.t 27) (.c (.bool true)) (.t 32)⟩])
       (.cond (.t 33)
        (.seq
         (.region [
           ⟨some 6, none, .mv true (.c (.lst 0 [] true))⟩,
           ⟨some 7, none, .mv true (.c (.int .i64 1))⟩])
         .ret)
        .skip))
      (.seq
       (.seq
        (.region [
          ⟨some 34, none, .mv false (.t 2)⟩,
          ⟨some 35, none, .bin .eql (.t 34) (.c (.int .i64 0))⟩])
        (.cond (.t 35)
         (.seq
          (.region [
            ⟨some 6, none, .mv true (.c (.lst 0 [] true))⟩,
            ⟨some 7, none, .mv true (.c (.int .i64 0))⟩])
          .ret)
         .skip))
       (.seq
        (.region [
          ⟨some 36, none, .mv false (.t 1)⟩,
          ⟨some 37, none, .bin .quo (.t 36) (.c (.int .i64 64))⟩,
          ⟨some 38, none, .mv false (.t 1)⟩,
          ⟨some 39, none, .mv false (.t 2)⟩,
          ⟨some 40, none, .bin .add (.t 38) (.t 39)⟩,
          ⟨some 41, none, .bin .sub (.t 40) (.c (.int .i64 1))⟩,
          ⟨some 42, none, .bin .quo (.t 41) (.c (.int .i64 64))⟩,
          ⟨some 9, none, .mv true (.t 37)⟩,
          ⟨some 10, none, .mv true (.t 42)⟩])
        (.seq
         (.region [
           ⟨some 44, none, .mv false (.t 0)⟩,
           ⟨some 45, none, .mv false (.t 9)⟩,
           ⟨some 46, none, .bin .mul (.t 45) (.c (.int .i64 68))⟩,
           ⟨some 47, none, .mv false (.t 10)⟩,
           ⟨some 48, none, .bin .add (.t 47) (.c (.int .i64 1))⟩,
           ⟨some 49, none, .bin .mul (.t 48) (.c (.int .i64 68))⟩,
           ⟨some 50, none, .mv false (.t 0)⟩,
           ⟨some 51, none, .len false (.t 50)⟩,
           ⟨some 52, none, .mm false (.t 49) (.t 51)⟩,
           ⟨some 53, none, .sli 1 (.t 44) (some (.t 46)) (some (.t 52)) none⟩,
           ⟨some 54, none, .callF 21 [.t 53] []⟩,
           ⟨some 43, none, .mv true (.t 54)⟩,
           ⟨some 55, none, .ext true (.t 43) 0⟩,
           ⟨some 56, none, .ext false (.t 43) 1⟩,
           ⟨some 11, none, .mv true (.t 55)⟩,
           ⟨some 12, none, .mv true (.t 56)⟩])
         (.seq
          (.seq
           (.region [
             ⟨some 57, none, .mv false (.t 12)⟩,
             ⟨some 58, none, .bin .neq (.t 57) (.c (.int .i64 0))⟩])
           (.cond (.t 58)
            (.seq
             (.region [
               ⟨some 59, none, .mv true (.t 12)⟩,
               ⟨some 6, none, .mv true (.c (.lst 0 [] true))⟩,
               ⟨some 7, none, .mv true (.t 59)⟩])
             .ret)
            .skip))
          (.seq
           (.region [
             ⟨some 60, none, .mv false (.t 1)⟩,
             ⟨some 61, none, .mv false (.t 9)⟩,
             ⟨some 62, none, .bin .mul (.t 61) (.c (.int .i64 64))⟩,
             ⟨some 63, none, .bin .sub (.t 60) (.t 62)⟩,
             ⟨some 13, none, .mv true (.t 63)⟩])
           (.seq
            (.region [
              ⟨some 64, none, .mv false (.t 11)⟩,
              ⟨some 65, none, .mv false (.t 13)⟩,
              ⟨some 66, none, .mv false (.t 13)⟩,
              ⟨some 67, none, .mv false (.t 2)⟩,
              ⟨some 68, none, .bin .add (.t 66) (.t 67)⟩,
              ⟨some 69, none, .sli 1 (.t 64) (some (.t 65)) (some (.t 68)) none⟩,
              ⟨some 6, none, .mv true (.t 69)⟩,
              ⟨some 7, none, .mv true (.c (.int .i64 0))⟩])
            .ret))))))))⟩
theorem t10 : compF Try.prog {} 10 = some p10 := by kernel_rfl
def p11 : PFn :=
  ⟨22, [.t 2], .seq
    (.region [
      ⟨some 2, none, .mv true (.c (.lst 0 [] true))⟩])
    (.seq
     (.region [
       ⟨some 3, none, .al [.lst 0 [] true]⟩])
     (.seq
      (.region [
        ⟨some 8, none, .callF 23 [] []⟩,
        ⟨some 4, none, .al [.lst 0 [] true]⟩,
        ⟨none, none, .sto 1 (.t 4) (.t 8)⟩])
      (.seq
       (.seq
        (.region [
          ⟨some 9, none, .mv false (.t 0)⟩,
          ⟨some 10, none, .callF 24 [.t 9, .c (.int .i64 64)] []⟩])
        (.block 0
         (.rangeF (.t 10) [11] (.region [
           ⟨some 5, none, .mv true (.t 11)⟩]) (.block 1
          (.seq
           (.region [
             ⟨some 13, none, .ld 1 false false (.t 4)⟩,
             ⟨some 14, none, .mv false (.t 5)⟩,
             ⟨some 15, none, .callF 25 [.t 13, .t 14] []⟩,
             ⟨some 12, none, .mv true (.t 15)⟩,
             ⟨some 16, none, .ext true (.t 12) 0⟩,
             ⟨some 17, none, .ext false (.t 12) 1⟩,
             ⟨some 6, none, .mv true (.t 16)⟩,
             ⟨some 7, none, .mv true (.t 17)⟩])
           (.region [
             ⟨some 18, none, .ld 1 false false (.t 3)⟩,
             ⟨some 19, none, .mv false (.t 6)⟩,
             ⟨some 20, none, .app 1 1 (.t 18) (.t 19)⟩,
             ⟨none, none, .sto 1 (.t 3) (.t 20)⟩]))))))
       (.seq
        (.region [
          ⟨some 21, none, .ld 1 false false (.t 3)⟩,
          ⟨some 2, none, .mv true (.t 21)⟩])
        .ret))))⟩
theorem t11 : compF Try.prog {} 11 = some p11 := by kernel_rfl
def p12 : PFn :=
  ⟨12, [.t 2], .seq
    (.region [
      ⟨some 2, none, .mv true (.c (.int .i64 0))⟩])
    (.seq
     (.seq
      (.region [
        ⟨some 3, none, .mv false (.t 0)⟩,
        ⟨some 4, none, .bin .lss (.t 3) (.c (.int .i64 1))⟩])
      (.cond (.t 4)
       (.seq
        (.region [
          ⟨some 2, none, .mv true (.c (.int .i64 0))⟩])
        .ret)
       .skip))
     (.seq
      (.region [
        ⟨some 5, none, .mv false (.t 0)⟩,
        ⟨some 6, none, .mv false (.t 0)⟩,
        ⟨some 7, none, .bin .sub (.t 6) (.c (.int .i64 1))⟩,
        ⟨some 8, none, .bin .quo (.t 7) (.c (.int .i64 64))⟩,
        ⟨some 9, none, .bin .add (.t 8) (.c (.int .i64 1))⟩,
        ⟨some 10, none, .bin .mul (.t 9) (.c (.int .i64 4))⟩,
        ⟨some 11, none, .bin .add (.t 5) (.t 10)⟩,
        ⟨some 2, none, .mv true (.t 11)⟩])
      .ret))⟩
theorem t12 : compF Try.prog {} 12 = some p12 := by kernel_rfl
def p13 : PFn :=
  ⟨36, [.t 2], .seq
    (.region [
      ⟨some 2, none, .mv true (.c (.lst 0 [] true))⟩])
    (.seq
     (.region [
       ⟨some 3, none, .mv true (.c (.lst 0 [] true))⟩])
     (.seq
      (.region [
        ⟨some 8, none, .callF 23 [] []⟩,
        ⟨some 4, none, .mv true (.t 8)⟩])
      (.seq
       (.seq
        (.region [
          ⟨some 5, none, .mv true (.c (.int .i64 0))⟩])
        (.block 0
         (.loop
          (.seq
           (.seq
            (.region [
              ⟨some 9, none, .mv false (.t 5)⟩,
              ⟨some 10, none, .mv false (.t 0)⟩,
              ⟨some 11, none, .len false (.t 10)⟩,
              ⟨some 12, none, .bin .lss (.t 9) (.t 11)⟩])
            (.cond (.t 12)
             .skip
             (.exit 0)))
           (.seq
            (.block 1
             (.seq
              (.region [
                ⟨some 16, none, .mv false (.t 0)⟩,
                ⟨some 17, none, .mv false (.t 5)⟩,
                ⟨some 18, none, .mv false (.t 5)⟩,
                ⟨some 19, none, .bin .add (.t 18) (.c (.int .i64 68))⟩,
                ⟨some 20, none, .mv false (.t 0)⟩,
                ⟨some 21, none, .len false (.t 20)⟩,
                ⟨some 22, none, .mm false (.t 19) (.t 21)⟩,
                ⟨some 23, none, .sli 1 (.t 16) (some (.t 17)) (some (.t 22)) none⟩,
                ⟨some 24, none, .mv false (.t 4)⟩,
                ⟨some 25, none, .callF 26 [.t 23, .t 24] []⟩,
                ⟨some 15, none, .mv true (.t 25)⟩,
                ⟨some 26, none, .ext true (.t 15) 0⟩,
                ⟨some 27, none, .ext false (.t 15) 1⟩,
                ⟨some 6, none, .mv true (.t 26)⟩,
                ⟨some 7, none, .mv true (.t 27)⟩])
              (.seq
               (.region [
                 ⟨some 28, none, .mv false (.t 7)⟩,
                 ⟨some 29, none, .un .not (.t 28)⟩])
               (.cond (.t 29)
                (.region [
                  ⟨some 30, none, .mv true (.t 3)⟩,
                  ⟨some 31, none, .mv false (.t 5)⟩,
                  ⟨some 32, none, .bin .quo (.t 31) (.c (.int .i64 68))⟩,
                  ⟨some 33, none, .bsl 1 1 false [.int .i64 0] [(0, .t 32)] false⟩,
                  ⟨some 34, none, .app 1 8 (.t 30) (.t 33)⟩,
                  ⟨some 3, none, .mv true (.t 34)⟩])
                .skip))))
            (.region [
              ⟨some 13, none, .mv false (.t 5)⟩,
              ⟨some 14, none, .bin .add (.t 13) (.c (.int .i64 68))⟩,
              ⟨some 5, none, .mv true (.t 14)⟩]))))))
       (.seq
        (.region [
          ⟨some 35, none, .mv true (.t 3)⟩,
          ⟨some 2, none, .mv true (.t 35)⟩])
        .ret))))⟩
theorem t13 : compF Try.prog {} 13 = some p13 := by kernel_rfl
def p14 : PFn :=
  ⟨8, [.t 2, .t 3], .seq
    (.region [
      ⟨some 2, none, .mv true (.c (.lst 0 [] true))⟩,
      ⟨some 3, none, .mv true (.c (.int .i64 0))⟩])
    (.seq
     (.region [
       ⟨some 4, none, .mv false (.t 0)⟩,
       ⟨some 5, none, .callF 21 [.t 4] []⟩,
       ⟨some 6, none, .ext true (.t 5) 0⟩,
       ⟨some 7, none, .ext false (.t 5) 1⟩,
       ⟨some 2, none, .mv true (.t 6)⟩,
       ⟨some 3, none, .mv true (.t 7)⟩])
     .ret)⟩
theorem t14 : compF Try.prog {} 14 = some p14 := by kernel_rfl
def p15 : PFn :=
  ⟨32, [.t 2, .t 3], .seq
    (.region [
      ⟨some 2, none, .mv true (.c (.lst 0 [] true))⟩,
      ⟨some 3, none, .mv true (.c (.int .i64 0))⟩])
    (.seq
     (.region [
       ⟨some 9, none, .bsl 1 0 false [] [] false⟩,
       ⟨some 4, none, .mv true (.t 9)⟩])
     (.seq
      (.region [
        ⟨some 10, none, .mv false (.t 0)⟩,
        ⟨some 11, none, .callF 27 [.t 10] []⟩,
        ⟨some 5, none, .mv true (.t 11)⟩])
      (.seq
       (.seq
        (.region [
          ⟨some 6, none, .mv true (.c (.int .i64 0))⟩])
        (.block 0
         (.loop
          (.seq
           (.seq
            (.region [
              ⟨some 12, none, .mv false (.t 6)⟩,
              ⟨some 13, none, .mv false (.t 5)⟩,
              ⟨some 14, none, .len false (.t 13)⟩,
              ⟨some 15, none, .bin .lss (.t 12) (.t 14)⟩])
            (.cond (.t 15)
             .skip
             (.exit 0)))
           (.seq
            (.block 1
             (.seq
              (.region [
                ⟨some 19, none, .mv false (.t 5)⟩,
                ⟨some 20, none, .mv false (.t 6)⟩,
                ⟨some 21, none, .iad 1 (.t 19) (.t 20)⟩,
                ⟨some 22, none, .ld 1 false false (.t 21)⟩,
                ⟨some 23, none, .callF 28 [.t 22] []⟩,
                ⟨some 18, none, .mv true (.t 23)⟩,
                ⟨some 24, none, .ext true (.t 18) 0⟩,
                ⟨some 25, none, .ext false (.t 18) 1⟩,
                ⟨some 7, none, .mv true (.t 24)⟩,
                ⟨some 8, none, .mv true (.t 25)⟩])
              (.seq
               (.seq
                (.region [
                  ⟨some 26, none, .mv false (.t 8)⟩,
                  ⟨some 27, none, .un .not (.t 26)⟩])
                (.cond (.t 27)
                 (.seq
                  (.region [
                    ⟨some 2, none, .mv true (.c (.lst 0 [] true))⟩,
                    ⟨some 3, none, .mv true (.c (.int .i64 16))⟩])
                  .ret)
                 .skip))
               (.region [
                 ⟨some 28, none, .mv true (.t 4)⟩,
                 ⟨some 29, none, .mv false (.t 7)⟩,
                 ⟨some 30, none, .app 1 1 (.t 28) (.t 29)⟩,
                 ⟨some 4, none, .mv true (.t 30)⟩]))))
            (.region [
              ⟨some 16, none, .mv false (.t 6)⟩,
              ⟨some 17, none, .bin .add (.t 16) (.c (.int .i64 1))⟩,
              ⟨some 6, none, .mv true (.t 17)⟩]))))))
       (.seq
        (.region [
          ⟨some 31, none, .mv true (.t 4)⟩,
          ⟨some 2, none, .mv true (.t 31)⟩,
          ⟨some 3, none, .mv true (.c (.int .i64 0))⟩])
        .ret))))⟩
theorem t15 : compF Try.prog {} 15 = some p15 := by kernel_rfl
def p16 : PFn :=
  ⟨22, [.t 2], .seq
    (.region [
      ⟨some 2, none, .mv true (.c (.lst 0 [] true))⟩])
    (.seq
     (.region [
       ⟨some 5, none, .bsl 1 0 false [] [] false⟩,
       ⟨some 3, none, .mv true (.t 5)⟩])
     (.seq
      (.block 0
       (.loop
        (.seq
         (.seq
          (.region [
            ⟨some 6, none, .mv false (.t 0)⟩,
            ⟨some 7, none, .len false (.t 6)⟩,
            ⟨some 8, none, .bin .gtr (.t 7) (.c (.int .i64 0))⟩])
          (.cond (.t 8)
           .skip
           (.exit 0)))
         (.block 1
          (.seq
           (.region [
             ⟨some 9, none, .mv false (.t 0)⟩,
             ⟨some 10, none, .len false (.t 9)⟩,
             ⟨some 11, none, .mm false (.c (.int .i64 64)) (.t 10)⟩,
             ⟨some 4, none, .mv true (.t 11)⟩])
           (.seq
            (.region [
              ⟨some 12, none, .mv true (.t 3)⟩,
              ⟨some 13, none, .mv false (.t 0)⟩,
              ⟨some 14, none, .mv false (.t 4)⟩,
              ⟨some 15, none, .sli 1 (.t 13) none (some (.t 14)) none⟩,
              ⟨some 16, none, .callF 29 [.t 15] []⟩,
              ⟨some 17, none, .app 1 1 (.t 12) (.t 16)⟩,
              ⟨some 3, none, .mv true (.t 17)⟩])
            (.region [
              ⟨some 18, none, .mv false (.t 0)⟩,
              ⟨some 19, none, .mv false (.t 4)⟩,
              ⟨some 20, none, .sli 1 (.t 18) (some (.t 19)) none none⟩,
              ⟨some 0, none, .mv true (.t 20)⟩])))))))
      (.seq
       (.region [
         ⟨some 21, none, .mv true (.t 3)⟩,
         ⟨some 2, none, .mv true (.t 21)⟩])
       .ret)))⟩
theorem t16 : compF Try.prog {} 16 = some p16 := by kernel_rfl
def p17 : PFn :=
  ⟨24, [.t 2], .seq
    (.region [
      ⟨some 2, none, .mv true (.c (.int .i64 0))⟩])
    (.seq
     (.region [
       ⟨some 3, none, .mv true (.c (.int .i64 0))⟩])
     (.seq
      (.region [
        ⟨some 6, none, .mv false (.t 0)⟩,
        ⟨some 7, none, .callF 27 [.t 6] []⟩,
        ⟨some 4, none, .mv true (.t 7)⟩])
      (.seq
       (.seq
        (.region [
          ⟨some 5, none, .mv true (.c (.int .i64 0))⟩])
        (.block 0
         (.loop
          (.seq
           (.seq
            (.region [
              ⟨some 8, none, .mv false (.t 5)⟩,
              ⟨some 9, none, .mv false (.t 4)⟩,
              ⟨some 10, none, .len false (.t 9)⟩,
              ⟨some 11, none, .bin .lss (.t 8) (.t 10)⟩])
            (.cond (.t 11)
             .skip
             (.exit 0)))
           (.seq
            (.block 1
             (.region [
               ⟨some 14, none, .mv false (.t 3)⟩,
               ⟨some 15, none, .mv false (.t 4)⟩,
               ⟨some 16, none, .mv false (.t 5)⟩,
               ⟨some 17, none, .iad 1 (.t 15) (.t 16)⟩,
               ⟨some 18, none, .ld 1 false false (.t 17)⟩,
               ⟨some 19, none, .len false (.t 18)⟩,
               ⟨some 20, none, .bin .sub (.t 19) (.c (.int .i64 4))⟩,
               ⟨some 21, none, .mm true (.c (.int .i64 0)) (.t 20)⟩,
               ⟨some 22, none, .bin .add (.t 14) (.t 21)⟩,
               ⟨some 3, none, .mv true (.t 22)⟩]))
            (.region [
              ⟨some 12, none, .mv false (.t 5)⟩,
              ⟨some 13, none, .bin .add (.t 12) (.c (.int .i64 1))⟩,
              ⟨some 5, none, .mv true (.t 13)⟩]))))))
       (.seq
        (.region [
          ⟨some 23, none, .mv true (.t 3)⟩,
          ⟨some 2, none, .mv true (.t 23)⟩])
        .ret))))⟩
theorem t17 : compF Try.prog {} 17 = some p17 := by kernel_rfl
def p18 : PFn :=
  ⟨26, [.t 4], .seq
    (.region [
      ⟨some 4, none, .mv true (.c (.bool false))⟩])
    (.seq
     (.seq
      (.region [
        ⟨some 6, none, .mv false (.t 0)⟩,
        ⟨some 7, none, .len false (.t 6)⟩,
        ⟨some 8, none, .mv false (.t 1)⟩,
        ⟨some 9, none, .len false (.t 8)⟩,
        ⟨some 10, none, .bin .neq (.t 7) (.t 9)⟩])
      (.cond (.t 10)
       (.seq
        (.region [
          ⟨some 4, none, .mv true (.c (.bool false))⟩])
        .ret)
       .skip))
     (.seq
      (.seq
       (.region [
         ⟨some 5, none, .mv true (.c (.int .i64 0))⟩])
       (.block 0
        (.loop
         (.seq
          (.seq
           (.region [
             ⟨some 11, none, .mv false (.t 5)⟩,
             ⟨some 12, none, .mv false (.t 0)⟩,
             ⟨some 13, none, .len false (.t 12)⟩,
             ⟨some 14, none, .bin .lss (.t 11) (.t 13)⟩])
           (.cond (.t 14)
            .skip
            (.exit 0)))
          (.seq
           (.block 1
            (.seq
             (.draw [
               ⟨some 17, none, .mv false (.t 0)⟩,
               ⟨some 18, none, .mv false (.t 5)⟩,
               ⟨some 19, none, .iad 1 (.t 17) (.t 18)⟩,
               ⟨some 20, none, .ld 1 false false (.t 19)⟩,
               ⟨some 21, none, .mv false (.t 1)⟩,
               ⟨some 22, none, .mv false (.t 5)⟩,
               ⟨some 23, none, .iad 1 (.t 21) (.t 22)⟩,
               ⟨some 24, none, .ld 1 false false (.t 23)⟩,
               ⟨some 25, none, .bin .neq (.t 20) (.t 24)⟩] [])
             (.cond (.t 25)
              (.seq
               (.region [
                 ⟨some 4, none, .mv true (.c (.bool false))⟩])
               .ret)
              .skip)))
           (.region [
             ⟨some 15, none, .mv false (.t 5)⟩,
             ⟨some 16, none, .bin .add (.t 15) (.c (.int .i64 1))⟩,
             ⟨some 5, none, .mv true (.t 16)⟩]))))))
      (.seq
       (.region [
         ⟨some 4, none, .mv true (.c (.bool true))⟩])
       .ret)))⟩
theorem t18 : compF Try.prog {} 18 = some p18 := by kernel_rfl
def p19 : PFn :=
  ⟨32, [.t 2], .seq
    (.region [
      ⟨some 2, none, .mv true (.c (.lst 0 [] true))⟩])
    (.seq
     (.region [
       ⟨some 8, none, .bsl 1 0 false [] [] false⟩,
       ⟨some 3, none, .mv true (.t 8)⟩])
     (.seq
      (.region [
        ⟨some 9, none, .mv false (.t 0)⟩,
        ⟨some 10, none, .callF 27 [.t 9] []⟩,
        ⟨some 4, none, .mv true (.t 10)⟩])
      (.seq
       (.seq
        (.region [
          ⟨some 5, none, .mv true (.c (.int .i64 0))⟩])
        (.block 0
         (.loop
          (.seq
           (.seq
            (.region [
              ⟨some 11, none, .mv false (.t 5)⟩,
              ⟨some 12, none, .mv false (.t 4)⟩,
              ⟨some 13, none, .len false (.t 12)⟩,
              ⟨some 14, none, .bin .lss (.t 11) (.t 13)⟩])
            (.cond (.t 14)
             .skip
             (.exit 0)))
           (.seq
            (.block 1
             (.seq
              (.region [
                ⟨some 18, none, .mv false (.t 4)⟩,
                ⟨some 19, none, .mv false (.t 5)⟩,
                ⟨some 20, none, .iad 1 (.t 18) (.t 19)⟩,
                ⟨some 21, none, .ld 1 false false (.t 20)⟩,
                ⟨some 22, none, .callF 28 [.t 21] []⟩,
                ⟨some 17, none, .mv true (.t 22)⟩,
                ⟨some 23, none, .ext true (.t 17) 0⟩,
                ⟨some 24, none, .ext false (.t 17) 1⟩,
                ⟨some 6, none, .mv true (.t 23)⟩,
                ⟨some 7, none, .mv true (.t 24)⟩])
              (.seq
               (.region [
                 ⟨some 25, none, .mv false (.t 7)⟩,
                 ⟨some 26, none, .un .not (.t 25)⟩])
               (.cond (.t 26)
                (.region [
                  ⟨some 27, none, .mv true (.t 3)⟩,
                  ⟨some 28, none, .mv false (.t 5)⟩,
                  ⟨some 29, none, .bsl 1 1 false [.int .i64 0] [(0, .t 28)] false⟩,
                  ⟨some 30, none, .app 1 8 (.t 27) (.t 29)⟩,
                  ⟨some 3, none, .mv true (.t 30)⟩])
                .skip))))
            (.region [
              ⟨some 15, none, .mv false (.t 5)⟩,
              ⟨some 16, none, .bin .add (.t 15) (.c (.int .i64 1))⟩,
              ⟨some 5, none, .mv true (.t 16)⟩]))))))
       (.seq
        (.region [
          ⟨some 31, none, .mv true (.t 3)⟩,
          ⟨some 2, none, .mv true (.t 31)⟩])
        .ret))))⟩
theorem t19 : compF Try.prog {} 19 = some p19 := by kernel_rfl
def p20 : PFn :=
  ⟨12, [.t 2], .seq
    (.region [
      ⟨some 2, none, .mv true (.c (.int .i64 0))⟩])
    (.seq
     (.seq
      (.region [
        ⟨some 3, none, .mv false (.t 0)⟩,
        ⟨some 4, none, .bin .lss (.t 3) (.c (.int .i64 1))⟩])
      (.cond (.t 4)
       (.seq
        (.region [
          ⟨some 2, none, .mv true (.c (.int .i64 0))⟩])
        .ret)
       .skip))
     (.seq
      (.region [
        ⟨some 5, none, .mv false (.t 0)⟩,
        ⟨some 6, none, .mv false (.t 0)⟩,
        ⟨some 7, none, .bin .sub (.t 6) (.c (.int .i64 1))⟩,
        ⟨some 8, none, .bin .quo (.t 7) (.c (.int .i64 64))⟩,
        ⟨some 9, none, .bin .add (.t 8) (.c (.int .i64 1))⟩,
        ⟨some 10, none, .bin .mul (.c (.int .i64 4)) (.t 9)⟩,
        ⟨some 11, none, .bin .add (.t 5) (.t 10)⟩,
        ⟨some 2, none, .mv true (.t 11)⟩])
      .ret))⟩
theorem t20 : compF Try.prog {} 20 = some p20 := by kernel_rfl
def p21 : PFn :=
  ⟨25, [.c 2 1 false, .c 3 1 false], .seq
    (.region [
      ⟨some 2, none, .al [.lst 0 [] true]⟩,
      ⟨some 3, none, .al [.int .i64 0]⟩])
    (.seq
     (.region [
       ⟨some 4, none, .al [.lst 0 [] true]⟩])
     (.seq
      (.region [
        ⟨some 9, none, .callF 23 [] []⟩,
        ⟨some 5, none, .al [.lst 0 [] true]⟩,
        ⟨none, none, .sto 1 (.t 5) (.t 9)⟩])
      (.seq
       (.seq
        (.region [
          ⟨some 10, none, .mv false (.t 0)⟩,
          ⟨some 11, none, .callF 24 [.t 10, .c (.int .i64 68)] []⟩])
        (.block 0
         (.rangeF (.t 11) [12] (.region [
           ⟨some 6, none, .mv true (.t 12)⟩]) (.block 1
          (.seq
           (.region [
             ⟨some 14, none, .mv false (.t 6)⟩,
             ⟨some 15, none, .ld 1 false false (.t 5)⟩,
             ⟨some 16, none, .callF 26 [.t 14, .t 15] []⟩,
             ⟨some 13, none, .mv true (.t 16)⟩,
             ⟨some 17, none, .ext true (.t 13) 0⟩,
             ⟨some 18, none, .ext false (.t 13) 1⟩,
             ⟨some 7, none, .mv true (.t 17)⟩,
             ⟨some 8, none, .mv true (.t 18)⟩])
           (.seq
            (.seq
             (.region [
               ⟨some 19, none, .mv false (.t 8)⟩,
               ⟨some 20, none, .un .not (.t 19)⟩])
             (.cond (.t 20)
              (.seq
               (.region [
                 ⟨none, none, .sto 1 (.t 2) (.c (.lst 0 [] true))⟩,
                 ⟨none, none, .sto 1 (.t 3) (.c (.int .i64 16))⟩])
               .ret)
              .skip))
            (.region [
              ⟨some 21, none, .ld 1 false false (.t 4)⟩,
              ⟨some 22, none, .mv false (.t 7)⟩,
              ⟨some 23, none, .app 1 1 (.t 21) (.t 22)⟩,
              ⟨none, none, .sto 1 (.t 4) (.t 23)⟩])))))))
       (.seq
        (.region [
          ⟨some 24, none, .ld 1 false false (.t 4)⟩,
          ⟨none, none, .sto 1 (.t 2) (.t 24)⟩,
          ⟨none, none, .sto 1 (.t 3) (.c (.int .i64 0))⟩])
        .ret))))⟩
theorem t21 : compF Try.prog {} 21 = some p21 := by kernel_rfl
def p22 : PFn :=
  ⟨36, [.t 2], .seq
    (.region [
      ⟨some 2, none, .mv true (.c (.lst 0 [] true))⟩])
    (.seq
     (.region [
       ⟨some 3, none, .mv true (.c (.int .i64 0))⟩])
     (.seq
      (.seq
       (.region [
         ⟨some 9, none, .mv false (.t 0)⟩,
         ⟨some 10, none, .len false (.t 9)⟩,
         ⟨some 11, none, .mv false (.c (.int .i64 0))⟩])
       (.block 0
        (.loop
         (.seq
          (.region [
            ⟨some 12, none, .bin .lss (.t 11) (.t 10)⟩])
          (.seq
           (.cond (.t 12)
            .skip
            (.exit 0))
           (.seq
            (.block 1
             (.seq
              (.region [
                ⟨some 13, none, .iad 1 (.t 9) (.t 11)⟩,
                ⟨some 14, none, .ld 1 false false (.t 13)⟩,
                ⟨some 5, none, .mv true (.t 14)⟩])
              (.seq
               (.region [
                 ⟨some 15, none, .mv false (.t 3)⟩,
                 ⟨some 16, none, .mv false (.t 5)⟩,
                 ⟨some 17, none, .len false (.t 16)⟩,
                 ⟨some 18, none, .bin .add (.t 15) (.t 17)⟩,
                 ⟨some 3, none, .mv true (.t 18)⟩])
               (.seq
                (.region [
                  ⟨some 19, none, .mv false (.t 3)⟩,
                  ⟨some 20, none, .bin .lss (.t 19) (.c (.int .i64 0))⟩])
                (.cond (.t 20)
                 (.region [
                   ⟨some 21, none, .bad⟩,
                   ⟨none, none, .bad⟩])
                 .skip)))))
            (.region [
              ⟨some 22, none, .bin .add (.t 11) (.c (.int .i64 1))⟩,
              ⟨some 11, none, .mv false (.t 22)⟩])))))))
      (.seq
       (.region [
         ⟨some 23, none, .mv false (.t 3)⟩,
         ⟨some 24, none, .callF 30 [.c (.lst 0 [] true), .t 23] []⟩,
         ⟨some 6, none, .mv true (.t 24)⟩])
       (.seq
        (.seq
         (.region [
           ⟨some 25, none, .mv false (.t 0)⟩,
           ⟨some 26, none, .len false (.t 25)⟩,
           ⟨some 27, none, .mv false (.c (.int .i64 0))⟩])
         (.block 2
          (.loop
           (.seq
            (.region [
              ⟨some 28, none, .bin .lss (.t 27) (.t 26)⟩])
            (.seq
             (.cond (.t 28)
              .skip
              (.exit 2))
             (.seq
              (.block 3
               (.seq
                (.region [
                  ⟨some 29, none, .iad 1 (.t 25) (.t 27)⟩,
                  ⟨some 30, none, .ld 1 false false (.t 29)⟩,
                  ⟨some 8, none, .mv true (.t 30)⟩])
                (.region [
                  ⟨some 31, none, .mv true (.t 6)⟩,
                  ⟨some 32, none, .mv false (.t 8)⟩,
                  ⟨some 33, none, .app 1 1 (.t 31) (.t 32)⟩,
                  ⟨some 6, none, .mv true (.t 33)⟩])))
              (.region [
                ⟨some 34, none, .bin .add (.t 27) (.c (.int .i64 1))⟩,
                ⟨some 27, none, .mv false (.t 34)⟩])))))))
        (.seq
         (.region [
           ⟨some 35, none, .mv true (.t 6)⟩,
           ⟨some 2, none, .mv true (.t 35)⟩])
         .ret)))))⟩
theorem t22 : compF Try.prog {} 22 = some p22 := by kernel_rfl
def p23 : PFn :=
  ⟨23, [.t 0], .seq
    (.region [
      ⟨some 0, none, .mv true (.c (.lst 0 [] true))⟩])
    (.seq
     (.region [
       ⟨some 4, none, .mk 1 4 false [.int .u32 0] (.c (.int .i64 256)) (.c (.int .i64 256)) false⟩,
       ⟨some 1, none, .mv true (.t 4)⟩])
     (.seq
      (.seq
       (.region [
         ⟨some 5, none, .mv false (.t 1)⟩,
         ⟨some 6, none, .len false (.t 5)⟩,
         ⟨some 7, none, .mv false (.c (.int .i64 0))⟩])
       (.block 0
        (.loop
         (.seq
          (.region [
            ⟨some 8, none, .bin .lss (.t 7) (.t 6)⟩])
          (.seq
           (.cond (.t 8)
            .skip
            (.exit 0))
           (.seq
            (.block 1
             (.seq
              (.region [
                ⟨some 9, none, .mv true (.t 7)⟩,
                ⟨some 2, none, .mv true (.t 9)⟩])
              (.seq
               (.region [
                 ⟨some 10, none, .mv false (.t 2)⟩,
                 ⟨some 11, none, .cvI .u32 (.t 10)⟩,
                 ⟨some 3, none, .mv true (.t 11)⟩])
               (.seq
                (.seq
                 (.region [
                   ⟨some 12, none, .mv false (.c (.int .i64 0))⟩])
                 (.block 2
                  (.loop
                   (.seq
                    (.region [
                      ⟨some 13, none, .bin .lss (.t 12) (.c (.int .i64 8))⟩])
                    (.seq
                     (.cond (.t 13)
                      .skip
                      (.exit 2))
                     (.seq
                      (.block 3
                       (.region [
                         ⟨some 14, none, .mv false (.t 3)⟩,
                         ⟨some 15, none, .callF 31 [.t 14] []⟩,
                         ⟨some 3, none, .mv true (.t 15)⟩]))
                      (.region [
                        ⟨some 16, none, .bin .add (.t 12) (.c (.int .i64 1))⟩,
                        ⟨some 12, none, .mv false (.t 16)⟩])))))))
                (.region [
                  ⟨some 17, none, .mv false (.t 1)⟩,
                  ⟨some 18, none, .mv false (.t 2)⟩,
                  ⟨some 19, none, .mv true (.t 3)⟩,
                  ⟨some 20, none, .iad 1 (.t 17) (.t 18)⟩,
                  ⟨none, none, .sto 1 (.t 20) (.t 19)⟩])))))
            (.region [
              ⟨some 21, none, .bin .add (.t 7) (.c (.int .i64 1))⟩,
              ⟨some 7, none, .mv false (.t 21)⟩])))))))
      (.seq
       (.region [
         ⟨some 22, none, .mv true (.t 1)⟩,
         ⟨some 0, none, .mv true (.t 22)⟩])
       .ret)))⟩
theorem t23 : compF Try.prog {} 23 = some p23 := by kernel_rfl
def p24 : PFn :=
  ⟨9, [.t 4], .seq
    (.region [
      ⟨some 2, none, .bxI 1 (.t 0)⟩,
      ⟨some 3, none, .bxI 1 (.t 1)⟩,
      ⟨some 4, none, .mv true (.c .nilf)⟩])
    (.seq
     (.seq
      (.region [
        ⟨some 5, none, .ld 1 false false (.t 3)⟩,
        ⟨some 6, none, .bin .lss (.t 5) (.c (.int .i64 1))⟩])
      (.cond (.t 6)
       (.region [
         ⟨some 7, none, .bad⟩,
         ⟨none, none, .bad⟩])
       .skip))
     (.seq
      (.region [
        ⟨some 8, none, .mkf (.func 32) [] [.t 2, .t 3]⟩,
        ⟨some 4, none, .mv true (.t 8)⟩])
      .ret))⟩
theorem t24 : compF Try.prog { ros := [2, 3] } 24 = some p24 := by kernel_rfl
def p25 : PFn :=
  ⟨22, [.t 4, .t 5], .seq
    (.region [
      ⟨some 4, none, .mv true (.c (.lst 0 [] true))⟩,
      ⟨some 5, none, .mv true (.c (.int .i64 0))⟩])
    (.seq
     (.region [
       ⟨some 9, none, .mv false (.t 0)⟩,
       ⟨some 10, none, .mv false (.t 1)⟩,
       ⟨some 11, none, .callF 33 [.t 9, .t 10] []⟩,
       ⟨some 8, none, .mv true (.t 11)⟩,
       ⟨some 12, none, .ext false (.t 8) 0⟩,
       ⟨some 13, none, .ext false (.t 8) 1⟩,
       ⟨some 6, none, .mv true (.t 12)⟩,
       ⟨some 7, none, .mv true (.t 13)⟩])
     (.seq
      (.seq
       (.region [
         ⟨some 14, none, .mv false (.t 7)⟩,
         ⟨some 15, none, .bin .neq (.t 14) (.c (.int .i64 0))⟩])
       (.cond (.t 15)
        (.seq
         (.region [
           ⟨some 16, none, .mv true (.t 7)⟩,
           ⟨some 4, none, .mv true (.c (.lst 0 [] true))⟩,
           ⟨some 5, none, .mv true (.t 16)⟩])
         .ret)
        .skip))
      (.seq
       (.region [
         ⟨some 17, none, .mv false (.t 1)⟩,
         ⟨some 18, none, .mv false (.t 6)⟩,
         ⟨some 19, none, .callF 34 [.t 18] []⟩,
         ⟨some 20, none, .bsl 1 2 false [.lst 0 [] true, .lst 0 [] true] [(0, .t 17), (1, .t 19)] false⟩,
         ⟨some 21, none, .callF 22 [.t 20] []⟩,
         ⟨some 4, none, .mv true (.t 21)⟩,
         ⟨some 5, none, .mv true (.c (.int .i64 0))⟩])
       .ret)))⟩
theorem t25 : compF Try.prog {} 25 = some p25 := by kernel_rfl
def p26 : PFn :=
  ⟨22, [.t 4, .t 5], .seq
    (.region [
      ⟨some 4, none, .mv true (.c (.lst 0 [] true))⟩,
      ⟨some 5, none, .mv true (.c (.bool false))⟩])
    (.seq
     (.region [
       ⟨some 9, none, .mv false (.t 1)⟩,
       ⟨some 10, none, .mv false (.t 0)⟩,
       ⟨some 11, none, .callF 35 [.t 9, .t 10] []⟩,
       ⟨some 8, none, .mv true (.t 11)⟩,
       ⟨some 12, none, .ext true (.t 8) 0⟩,
       ⟨some 13, none, .ext false (.t 8) 1⟩,
       ⟨some 6, none, .mv true (.t 12)⟩,
       ⟨some 7, none, .mv true (.t 13)⟩])
     (.seq
      (.region [
        ⟨some 14, none, .mv true (.t 6)⟩,
        ⟨some 15, none, .mv false (.t 7)⟩,
        ⟨some 16, none, .bin .eql (.t 15) (.c (.int .i64 0))⟩,
        ⟨some 17, none, .mv false (.t 16)⟩,
        ⟨some 18, some (17, true), .mv false (.t 6)⟩,
        ⟨some 19, some (17, true), .len false (.t 18)⟩,
        ⟨some 20, some (17, true), .bin .gtr (.t 19) (.c (.int .i64 0))⟩,
        ⟨some 21, none, .pick (.t 17) (.t 20) (.c (.bool false))⟩,
        ⟨some 4, none, .mv true (.t 14)⟩,
        ⟨some 5, none, .mv true (.t 21)⟩])
      .ret))⟩
theorem t26 : compF Try.prog {} 26 = some p26 := by kernel_rfl
def p27 : PFn :=
  ⟨22, [.t 2], .seq
    (.region [
      ⟨some 2, none, .mv true (.c (.lst 0 [] true))⟩])
    (.seq
     (.region [
       ⟨some 5, none, .bsl 1 0 false [] [] false⟩,
       ⟨some 3, none, .mv true (.t 5)⟩])
     (.seq
      (.block 0
       (.loop
        (.seq
         (.seq
          (.region [
            ⟨some 6, none, .mv false (.t 0)⟩,
            ⟨some 7, none, .len false (.t 6)⟩,
            ⟨some 8, none, .bin .gtr (.t 7) (.c (.int .i64 0))⟩])
          (.cond (.t 8)
           .skip
           (.exit 0)))
         (.block 1
          (.seq
           (.region [
             ⟨some 9, none, .mv false (.t 0)⟩,
             ⟨some 10, none, .len false (.t 9)⟩,
             ⟨some 11, none, .mm false (.c (.int .i64 68)) (.t 10)⟩,
             ⟨some 4, none, .mv true (.t 11)⟩])
           (.seq
            (.region [
              ⟨some 12, none, .mv true (.t 3)⟩,
              ⟨some 13, none, .mv false (.t 0)⟩,
              ⟨some 14, none, .mv false (.t 4)⟩,
              ⟨some 15, none, .sli 1 (.t 13) none (some (.t 14)) none⟩,
              ⟨some 16, none, .bsl 1 1 false [.lst 0 [] true] [(0, .t 15)] false⟩,
              ⟨some 17, none, .app 1 24 (.t 12) (.t 16)⟩,
              ⟨some 3, none, .mv true (.t 17)⟩])
            (.region [
              ⟨some 18, none, .mv false (.t 0)⟩,
              ⟨some 19, none, .mv false (.t 4)⟩,
              ⟨some 20, none, .sli 1 (.t 18) (some (.t 19)) none none⟩,
              ⟨some 0, none, .mv true (.t 20)⟩])))))))
      (.seq
       (.region [
         ⟨some 21, none, .mv true (.t 3)⟩,
         ⟨some 2, none, .mv true (.t 21)⟩])
       .ret)))⟩
theorem t27 : compF Try.prog {} 27 = some p27 := by kernel_rfl
def p28 : PFn :=
  ⟨19, [.t 2, .t 3], .seq
    (.region [
      ⟨some 2, none, .mv true (.c (.lst 0 [] true))⟩,
      ⟨some 3, none, .mv true (.c (.bool false))⟩])
    (.seq
     (.region [
       ⟨some 7, none, .mv false (.t 0)⟩,
       ⟨some 8, none, .callF 36 [.t 7] []⟩,
       ⟨some 6, none, .mv true (.t 8)⟩,
       ⟨some 9, none, .ext true (.t 6) 0⟩,
       ⟨some 10, none, .ext false (.t 6) 1⟩,
       ⟨some 4, none, .mv true (.t 9)⟩,
       ⟨some 5, none, .mv true (.t 10)⟩])
     (.seq
      (.region [
        ⟨some 11, none, .mv true (.t 4)⟩,
        ⟨some 12, none, .mv false (.t 5)⟩,
        ⟨some 13, none, .bin .eql (.t 12) (.c (.int .i64 0))⟩,
        ⟨some 14, none, .mv false (.t 13)⟩,
        ⟨some 15, some (14, true), .mv false (.t 0)⟩,
        ⟨some 16, some (14, true), .len false (.t 15)⟩,
        ⟨some 17, some (14, true), .bin .geq (.t 16) (.c (.int .i64 5))⟩,
        ⟨some 18, none, .pick (.t 14) (.t 17) (.c (.bool false))⟩,
        ⟨some 2, none, .mv true (.t 11)⟩,
        ⟨some 3, none, .mv true (.t 18)⟩])
      .ret))⟩
theorem t28 : compF Try.prog {} 28 = some p28 := by kernel_rfl
def p29 : PFn :=
  ⟨12, [.t 2], .seq
    (.region [
      ⟨some 2, none, .mv true (.c (.lst 0 [] true))⟩])
    (.seq
     (.region [
       ⟨some 4, none, .bsl 1 0 false [] [] false⟩,
       ⟨some 5, none, .mv false (.t 0)⟩,
       ⟨some 6, none, .app 1 1 (.t 4) (.t 5)⟩,
       ⟨some 3, none, .mv true (.t 6)⟩])
     (.seq
      (.region [
        ⟨some 7, none, .mv true (.t 3)⟩,
        ⟨some 8, none, .mv false (.t 0)⟩,
        ⟨some 9, none, .callF 38 [.t 8] []⟩,
        ⟨some 10, none, .callF 37 [.t 9] []⟩,
        ⟨some 11, none, .app 1 1 (.t 7) (.t 10)⟩,
        ⟨some 2, none, .mv true (.t 11)⟩])
      .ret))⟩
theorem t29 : compF Try.prog {} 29 = some p29 := by kernel_rfl
def p30 : PFn :=
  ⟨27, [.t 4], .seq
    (.region [
      ⟨some 4, none, .mv true (.c (.lst 0 [] true))⟩])
    (.seq
     (.seq
      (.region [
        ⟨some 5, none, .mv false (.t 1)⟩,
        ⟨some 6, none, .bin .lss (.t 5) (.c (.int .i64 0))⟩])
      (.cond (.t 6)
       (.region [
         ⟨some 7, none, .bad⟩,
         ⟨none, none, .bad⟩])
       .skip))
     (.seq
      (.seq
       (.region [
         ⟨some 8, none, .mv false (.t 1)⟩,
         ⟨some 9, none, .mv false (.t 0)⟩,
         ⟨some 10, none, .cap (.t 9)⟩,
         ⟨some 11, none, .mv false (.t 0)⟩,
         ⟨some 12, none, .len false (.t 11)⟩,
         ⟨some 13, none, .bin .sub (.t 10) (.t 12)⟩,
         ⟨some 14, none, .bin .sub (.t 8) (.t 13)⟩,
         ⟨some 1, none, .mv true (.t 14)⟩])
       (.seq
        (.region [
          ⟨some 15, none, .mv false (.t 1)⟩,
          ⟨some 16, none, .bin .gtr (.t 15) (.c (.int .i64 0))⟩])
        (.cond (.t 16)
         (.region [
           ⟨some 17, none, .mv false (.t 0)⟩,
           ⟨some 18, none, .mv false (.t 0)⟩,
           ⟨some 19, none, .cap (.t 18)⟩,
           ⟨some 20, none, .sli 1 (.t 17) none (some (.t 19)) none⟩,
           ⟨some 21, none, .mv false (.t 1)⟩,
           ⟨some 22, none, .bad⟩,
           ⟨some 23, none, .mv false (.t 0)⟩,
           ⟨some 24, none, .len false (.t 23)⟩,
           ⟨some 25, none, .sli 1 (.t 22) none (some (.t 24)) none⟩,
           ⟨some 0, none, .mv true (.t 25)⟩])
         .skip)))
      (.seq
       (.region [
         ⟨some 26, none, .mv true (.t 0)⟩,
         ⟨some 4, none, .mv true (.t 26)⟩])
       .ret)))⟩
theorem t30 : compF Try.prog {} 30 = some p30 := by kernel_rfl
def p31 : PFn :=
  ⟨11, [.t 2], .seq
    (.region [
      ⟨some 2, none, .mv true (.c (.int .u32 0))⟩])
    (.seq
     (.seq
      (.region [
        ⟨some 3, none, .mv false (.t 0)⟩,
        ⟨some 4, none, .bin .and (.t 3) (.c (.int .u32 1))⟩,
        ⟨some 5, none, .bin .neq (.t 4) (.c (.int .u32 0))⟩])
      (.cond (.t 5)
       (.seq
        (.region [
          ⟨some 6, none, .mv false (.t 0)⟩,
          ⟨some 7, none, .bin .shr (.t 6) (.c (.int .u64 1))⟩,
          ⟨some 8, none, .bin .xor (.t 7) (.c (.int .u32 3988292384))⟩,
          ⟨some 2, none, .mv true (.t 8)⟩])
        .ret)
       .skip))
     (.seq
      (.region [
        ⟨some 9, none, .mv false (.t 0)⟩,
        ⟨some 10, none, .bin .shr (.t 9) (.c (.int .u64 1))⟩,
        ⟨some 2, none, .mv true (.t 10)⟩])
      .ret))⟩
theorem t31 : compF Try.prog {} 31 = some p31 := by kernel_rfl
def p32 : PFn :=
  ⟨31, [], .seq
    (.region [
      ⟨some 4, none, .mv true (.c (.int .i64 0))⟩])
    (.block 0
     (.loop
      (.seq
       (.seq
        (.region [
          ⟨some 6, none, .mv false (.t 4)⟩,
          ⟨some 7, none, .ld 1 false false (.t 1)⟩,
          ⟨some 8, none, .len false (.t 7)⟩,
          ⟨some 9, none, .bin .lss (.t 6) (.t 8)⟩])
        (.cond (.t 9)
         .skip
         (.exit 0)))
       (.seq
        (.block 1
         (.seq
          (.draw [
            ⟨some 13, none, .ld 1 false false (.t 2)⟩,
            ⟨some 14, none, .ld 1 false false (.t 1)⟩,
            ⟨some 15, none, .mv false (.t 4)⟩,
            ⟨some 16, none, .sli 1 (.t 14) (some (.t 15)) none none⟩,
            ⟨some 17, none, .len false (.t 16)⟩,
            ⟨some 18, none, .mm false (.t 13) (.t 17)⟩,
            ⟨some 5, none, .mv true (.t 18)⟩] [])
          (.seq
           (.region [
             ⟨some 19, none, .mv false (.t 0)⟩,
             ⟨some 20, none, .ld 1 false false (.t 1)⟩,
             ⟨some 21, none, .mv false (.t 4)⟩,
             ⟨some 22, none, .mv false (.t 4)⟩,
             ⟨some 23, none, .mv false (.t 5)⟩,
             ⟨some 24, none, .bin .add (.t 22) (.t 23)⟩,
             ⟨some 25, none, .mv false (.t 4)⟩,
             ⟨some 26, none, .mv false (.t 5)⟩,
             ⟨some 27, none, .bin .add (.t 25) (.t 26)⟩,
             ⟨some 28, none, .sli 1 (.t 20) (some (.t 21)) (some (.t 24)) (some (.t 27))⟩,
             ⟨some 29, none, .callV (.t 19) [.t 28]⟩,
             ⟨some 30, none, .un .not (.t 29)⟩])
           (.cond (.t 30)
            .ret
            .skip))))
        (.region [
          ⟨some 10, none, .mv false (.t 4)⟩,
          ⟨some 11, none, .ld 1 false false (.t 2)⟩,
          ⟨some 12, none, .bin .add (.t 10) (.t 11)⟩,
          ⟨some 4, none, .mv true (.t 12)⟩])))))⟩
theorem t32 : compF Try.prog {} 32 = some p32 := by kernel_rfl
def p33 : PFn :=
  ⟨19, [.t 4, .t 5], .seq
    (.region [
      ⟨some 4, none, .mv true (.c (.int .u32 0))⟩,
      ⟨some 5, none, .mv true (.c (.int .i64 0))⟩])
    (.seq
     (.region [
       ⟨some 9, none, .mv false (.t 0)⟩,
       ⟨some 10, none, .mv false (.t 1)⟩,
       ⟨some 11, none, .callF 39 [.t 9, .c (.int .u32 4294967295), .t 10] []⟩,
       ⟨some 8, none, .mv true (.t 11)⟩,
       ⟨some 12, none, .ext false (.t 8) 0⟩,
       ⟨some 13, none, .ext false (.t 8) 1⟩,
       ⟨some 6, none, .mv true (.t 12)⟩,
       ⟨some 7, none, .mv true (.t 13)⟩])
     (.seq
      (.seq
       (.region [
         ⟨some 14, none, .mv false (.t 7)⟩,
         ⟨some 15, none, .bin .neq (.t 14) (.c (.int .i64 0))⟩])
       (.cond (.t 15)
        (.seq
         (.region [
           ⟨some 16, none, .mv true (.t 7)⟩,
           ⟨some 4, none, .mv true (.c (.int .u32 0))⟩,
           ⟨some 5, none, .mv true (.t 16)⟩])
         .ret)
        .skip))
      (.seq
       (.region [
         ⟨some 17, none, .mv false (.t 6)⟩,
         ⟨some 18, none, .un .xor (.t 17)⟩,
         ⟨some 4, none, .mv true (.t 18)⟩,
         ⟨some 5, none, .mv true (.c (.int .i64 0))⟩])
       .ret)))⟩
theorem t33 : compF Try.prog {} 33 = some p33 := by kernel_rfl
def p34 : PFn :=
  ⟨15, [.t 2], .seq
    (.region [
      ⟨some 2, none, .mv true (.c (.lst 0 [] true))⟩])
    (.seq
     (.region [
       ⟨some 3, none, .mv false (.t 0)⟩,
       ⟨some 4, none, .cvI .u8 (.t 3)⟩,
       ⟨some 5, none, .mv false (.t 0)⟩,
       ⟨some 6, none, .bin .shr (.t 5) (.c (.int .u64 8))⟩,
       ⟨some 7, none, .cvI .u8 (.t 6)⟩,
       ⟨some 8, none, .mv false (.t 0)⟩,
       ⟨some 9, none, .bin .shr (.t 8) (.c (.int .u64 16))⟩,
       ⟨some 10, none, .cvI .u8 (.t 9)⟩,
       ⟨some 11, none, .mv false (.t 0)⟩,
       ⟨some 12, none, .bin .shr (.t 11) (.c (.int .u64 24))⟩,
       ⟨some 13, none, .cvI .u8 (.t 12)⟩,
       ⟨some 14, none, .bsl 1 4 false [.int .u8 0, .int .u8 0, .int .u8 0, .int .u8 0] [(0, .t 4), (1, .t 7), (2, .t 10), (3, .t 13)] false⟩,
       ⟨some 2, none, .mv true (.t 14)⟩])
     .ret)⟩
theorem t34 : compF Try.prog {} 34 = some p34 := by kernel_rfl
def p35 : PFn :=
  ⟨38, [.t 4, .t 5], .seq
    (.region [
      ⟨some 4, none, .mv true (.c (.lst 0 [] true))⟩,
      ⟨some 5, none, .mv true (.c (.int .i64 0))⟩])
    (.seq
     (.region [
       ⟨some 9, none, .mv false (.t 1)⟩,
       ⟨some 10, none, .len false (.t 9)⟩,
       ⟨some 11, none, .bin .sub (.t 10) (.c (.int .i64 4))⟩,
       ⟨some 6, none, .mv true (.t 11)⟩])
     (.seq
      (.block 0
       (.seq
        (.region [
          ⟨some 13, none, .mv false (.t 0)⟩,
          ⟨some 14, none, .len false (.t 13)⟩,
          ⟨some 15, none, .bin .neq (.t 14) (.c (.int .i64 256))⟩,
          ⟨some 12, none, .mv true (.t 15)⟩])
        (.cond (.t 12)
         (.seq
          (.region [
            ⟨some 4, none, .mv true (.c (.lst 0 [] true))⟩,
            ⟨some 5, none, .mv true (.c (.int .i64 1))⟩])
          .ret)
         (.seq
          (.region [
            ⟨some 17, none, .mv false (.t 6)⟩,
            ⟨some 18, none, .bin .lss (.t 17) (.c (.int .i64 0))⟩,
            ⟨some 16, none, .mv true (.t 18)⟩])
          (.cond (.t 16)
           (.seq
            (.region [
              ⟨some 4, none, .mv true (.c (.lst 0 [] true))⟩,
              ⟨some 5, none, .mv true (.c (.int .i64 2))⟩])
            .ret)
           .skip)))))
      (.seq
       (.region [
         ⟨some 20, none, .mv false (.t 0)⟩,
         ⟨some 21, none, .mv false (.t 1)⟩,
         ⟨some 22, none, .mv false (.t 6)⟩,
         ⟨some 23, none, .sli 1 (.t 21) none (some (.t 22)) none⟩,
         ⟨some 24, none, .callF 33 [.t 20, .t 23] []⟩,
         ⟨some 19, none, .mv true (.t 24)⟩,
         ⟨some 25, none, .ext false (.t 19) 0⟩,
         ⟨some 26, none, .ext false (.t 19) 1⟩,
         ⟨some 7, none, .mv true (.t 25)⟩,
         ⟨some 8, none, .mv true (.t 26)⟩])
       (.seq
        (.seq
         (.draw [
           ⟨some 27, none, .mv false (.t 7)⟩,
           ⟨some 28, none, .callF 34 [.t 27] []⟩,
           ⟨some 29, none, .mv false (.t 1)⟩,
           ⟨some 30, none, .mv false (.t 6)⟩,
           ⟨some 31, none, .sli 1 (.t 29) (some (.t 30)) none none⟩,
           ⟨some 32, none, .callF 40 [.t 28, .t 31] []⟩,
           ⟨some 33, none, .un .not (.t 32)⟩] [])
         (.cond (.t 33)
          (.seq
           (.region [
             ⟨some 4, none, .mv true (.c (.lst 0 [] true))⟩,
             ⟨some 5, none, .mv true (.c (.int .i64 4))⟩])
           .ret)
          .skip))
        (.seq
         (.region [
           ⟨some 34, none, .mv false (.t 1)⟩,
           ⟨some 35, none, .mv false (.t 6)⟩,
           ⟨some 36, none, .sli 1 (.t 34) none (some (.t 35)) none⟩,
           ⟨some 37, none, .callF 41 [.t 36] []⟩,
           ⟨some 4, none, .mv true (.t 37)⟩,
           ⟨some 5, none, .mv true (.c (.int .i64 0))⟩])
         .ret)))))⟩
theorem t35 : compF Try.prog {} 35 = some p35 := by kernel_rfl
def p36 : PFn :=
  ⟨26, [.t 2, .t 3], .seq
    (.region [
      ⟨some 2, none, .mv true (.c (.lst 0 [] true))⟩,
      ⟨some 3, none, .mv true (.c (.int .i64 0))⟩])
    (.seq
     (.region [
       ⟨some 5, none, .mv false (.t 0)⟩,
       ⟨some 6, none, .len false (.t 5)⟩,
       ⟨some 7, none, .bin .sub (.t 6) (.c (.int .i64 4))⟩,
       ⟨some 4, none, .mv true (.t 7)⟩])
     (.seq
      (.seq
       (.region [
         ⟨some 8, none, .mv false (.t 4)⟩,
         ⟨some 9, none, .bin .lss (.t 8) (.c (.int .i64 0))⟩])
       (.cond (.t 9)
        (.seq
         (.region [
           ⟨some 2, none, .mv true (.c (.lst 0 [] true))⟩,
           ⟨some 3, none, .mv true (.c (.int .i64 2))⟩])
         .ret)
        .skip))
      (.seq
       (.seq
        (.draw [
          ⟨some 10, none, .mv false (.t 0)⟩,
          ⟨some 11, none, .mv false (.t 4)⟩,
          ⟨some 12, none, .sli 1 (.t 10) none (some (.t 11)) none⟩,
          ⟨some 13, none, .callF 38 [.t 12] []⟩,
          ⟨some 14, none, .callF 37 [.t 13] []⟩,
          ⟨some 15, none, .cvS (.t 14)⟩,
          ⟨some 16, none, .mv false (.t 0)⟩,
          ⟨some 17, none, .mv false (.t 4)⟩,
          ⟨some 18, none, .sli 1 (.t 16) (some (.t 17)) none none⟩,
          ⟨some 19, none, .cvS (.t 18)⟩,
          ⟨some 20, none, .bin .neq (.t 15) (.t 19)⟩] [])
        (.cond (.t 20)
         (.seq
          (.region [
            ⟨some 2, none, .mv true (.c (.lst 0 [] true))⟩,
            ⟨some 3, none, .mv true (.c (.int .i64 4))⟩])
          .ret)
         .skip))
       (.seq
        (.region [
          ⟨some 21, none, .bsl 1 0 false [] [] false⟩,
          ⟨some 22, none, .mv false (.t 0)⟩,
          ⟨some 23, none, .mv false (.t 4)⟩,
          ⟨some 24, none, .sli 1 (.t 22) none (some (.t 23)) none⟩,
          ⟨some 25, none, .app 1 1 (.t 21) (.t 24)⟩,
          ⟨some 2, none, .mv true (.t 25)⟩,
          ⟨some 3, none, .mv true (.c (.int .i64 0))⟩])
        .ret))))⟩
theorem t36 : compF Try.prog {} 36 = some p36 := by kernel_rfl
def p37 : PFn :=
  ⟨15, [.t 2], .seq
    (.region [
      ⟨some 2, none, .mv true (.c (.lst 0 [] true))⟩])
    (.seq
     (.region [
       ⟨some 3, none, .mv false (.t 0)⟩,
       ⟨some 4, none, .cvI .u8 (.t 3)⟩,
       ⟨some 5, none, .mv false (.t 0)⟩,
       ⟨some 6, none, .bin .quo (.t 5) (.c (.int .u32 256))⟩,
       ⟨some 7, none, .cvI .u8 (.t 6)⟩,
       ⟨some 8, none, .mv false (.t 0)⟩,
       ⟨some 9, none, .bin .quo (.t 8) (.c (.int .u32 65536))⟩,
       ⟨some 10, none, .cvI .u8 (.t 9)⟩,
       ⟨some 11, none, .mv false (.t 0)⟩,
       ⟨some 12, none, .bin .quo (.t 11) (.c (.int .u32 16777216))⟩,
       ⟨some 13, none, .cvI .u8 (.t 12)⟩,
       ⟨some 14, none, .bsl 1 4 false [.int .u8 0, .int .u8 0, .int .u8 0, .int .u8 0] [(0, .t 4), (1, .t 7), (2, .t 10), (3, .t 13)] false⟩,
       ⟨some 2, none, .mv true (.t 14)⟩])
     .ret)⟩
theorem t37 : compF Try.prog {} 37 = some p37 := by kernel_rfl
def p38 : PFn :=
  ⟨26, [.t 2], .seq
    (.region [
      ⟨some 2, none, .mv true (.c (.int .u32 0))⟩])
    (.seq
     (.region [
       ⟨some 3, none, .mv true (.c (.int .u32 4294967295))⟩])
     (.seq
      (.seq
       (.region [
         ⟨some 4, none, .mv true (.c (.int .i64 0))⟩])
       (.block 0
        (.loop
         (.seq
          (.seq
           (.region [
             ⟨some 5, none, .mv false (.t 4)⟩,
             ⟨some 6, none, .mv false (.t 0)⟩,
             ⟨some 7, none, .len false (.t 6)⟩,
             ⟨some 8, none, .bin .lss (.t 5) (.t 7)⟩])
           (.cond (.t 8)
            .skip
            (.exit 0)))
          (.seq
           (.block 1
            (.region [
              ⟨some 11, none, .mv false (.t 3)⟩,
              ⟨some 12, none, .mv false (.t 0)⟩,
              ⟨some 13, none, .mv false (.t 4)⟩,
              ⟨some 14, none, .iad 1 (.t 12) (.t 13)⟩,
              ⟨some 15, none, .ld 1 false false (.t 14)⟩,
              ⟨some 16, none, .cvI .u32 (.t 15)⟩,
              ⟨some 17, none, .bin .xor (.t 11) (.t 16)⟩,
              ⟨some 18, none, .bin .rem (.t 17) (.c (.int .u32 256))⟩,
              ⟨some 19, none, .cvI .i64 (.t 18)⟩,
              ⟨some 20, none, .callF 42 [.t 19] []⟩,
              ⟨some 21, none, .mv false (.t 3)⟩,
              ⟨some 22, none, .bin .quo (.t 21) (.c (.int .u32 256))⟩,
              ⟨some 23, none, .bin .xor (.t 20) (.t 22)⟩,
              ⟨some 3, none, .mv true (.t 23)⟩]))
           (.region [
             ⟨some 9, none, .mv false (.t 4)⟩,
             ⟨some 10, none, .bin .add (.t 9) (.c (.int .i64 1))⟩,
             ⟨some 4, none, .mv true (.t 10)⟩]))))))
      (.seq
       (.region [
         ⟨some 24, none, .mv false (.t 3)⟩,
         ⟨some 25, none, .bin .xor (.t 24) (.c (.int .u32 4294967295))⟩,
         ⟨some 2, none, .mv true (.t 25)⟩])
       .ret)))⟩
theorem t38 : compF Try.prog {} 38 = some p38 := by kernel_rfl
def p39 : PFn :=
  ⟨31, [.t 6, .t 7], .seq
    (.region [
      ⟨some 6, none, .mv true (.c (.int .u32 0))⟩,
      ⟨some 7, none, .mv true (.c (.int .i64 0))⟩])
    (.seq
     (.seq
      (.region [
        ⟨some 10, none, .mv false (.t 0)⟩,
        ⟨some 11, none, .len false (.t 10)⟩,
        ⟨some 12, none, .bin .neq (.t 11) (.c (.int .i64 256))⟩])
      (.cond (.t 12)
       (.seq
        (.region [
          ⟨some 6, none, .mv true (.c (.int .u32 0))⟩,
          ⟨some 7, none, .mv true (.c (.int .i64 1))⟩])
        .ret)
       .skip))
     (.seq
      (.seq
       (.region [
         ⟨some 13, none, .mv false (.t 2)⟩,
         ⟨some 14, none, .len false (.t 13)⟩,
         ⟨some 15, none, .mv false (.c (.int .i64 0))⟩])
       (.block 0
        (.loop
         (.seq
          (.region [
            ⟨some 16, none, .bin .lss (.t 15) (.t 14)⟩])
          (.seq
           (.cond (.t 16)
            .skip
            (.exit 0))
           (.seq
            (.block 1
             (.seq
              (.region [
                ⟨some 17, none, .iad 1 (.t 13) (.t 15)⟩,
                ⟨some 18, none, .ld 1 false false (.t 17)⟩,
                ⟨some 9, none, .mv true (.t 18)⟩])
              (.region [
                ⟨some 19, none, .mv false (.t 0)⟩,
                ⟨some 20, none, .mv false (.t 1)⟩,
                ⟨some 21, none, .cvI .u8 (.t 20)⟩,
                ⟨some 22, none, .mv false (.t 9)⟩,
                ⟨some 23, none, .bin .xor (.t 21) (.t 22)⟩,
                ⟨some 24, none, .iad 1 (.t 19) (.t 23)⟩,
                ⟨some 25, none, .ld 1 false false (.t 24)⟩,
                ⟨some 26, none, .mv false (.t 1)⟩,
                ⟨some 27, none, .bin .shr (.t 26) (.c (.int .u64 8))⟩,
                ⟨some 28, none, .bin .xor (.t 25) (.t 27)⟩,
                ⟨some 1, none, .mv true (.t 28)⟩])))
            (.region [
              ⟨some 29, none, .bin .add (.t 15) (.c (.int .i64 1))⟩,
              ⟨some 15, none, .mv false (.t 29)⟩])))))))
      (.seq
       (.region [
         ⟨some 30, none, .mv true (.t 1)⟩,
         ⟨some 6, none, .mv true (.t 30)⟩,
         ⟨some 7, none, .mv true (.c (.int .i64 0))⟩])
       .ret)))⟩
theorem t39 : compF Try.prog {} 39 = some p39 := by kernel_rfl
def p40 : PFn :=
  ⟨10, [.t 4], .seq
    (.region [
      ⟨some 4, none, .mv true (.c (.bool false))⟩])
    (.seq
     (.region [
       ⟨some 5, none, .mv false (.t 0)⟩,
       ⟨some 6, none, .cvS (.t 5)⟩,
       ⟨some 7, none, .mv false (.t 1)⟩,
       ⟨some 8, none, .cvS (.t 7)⟩,
       ⟨some 9, none, .bin .eql (.t 6) (.t 8)⟩,
       ⟨some 4, none, .mv true (.t 9)⟩])
     .ret)⟩
theorem t40 : compF Try.prog {} 40 = some p40 := by kernel_rfl
def p41 : PFn :=
  ⟨8, [.t 2], .seq
    (.region [
      ⟨some 2, none, .mv true (.c (.lst 0 [] true))⟩])
    (.seq
     (.seq
      (.region [
        ⟨some 3, none, .mv false (.t 0)⟩,
        ⟨some 4, none, .eqN false (.t 3)⟩])
      (.cond (.t 4)
       (.seq
        (.region [
          ⟨some 2, none, .mv true (.c (.lst 0 [] true))⟩])
        .ret)
       .skip))
     (.seq
      (.region [
        ⟨some 5, none, .bsl 1 0 false [] [] false⟩,
        ⟨some 6, none, .mv false (.t 0)⟩,
        ⟨some 7, none, .app 1 1 (.t 5) (.t 6)⟩,
        ⟨some 2, none, .mv true (.t 7)⟩])
      .ret))⟩
theorem t41 : compF Try.prog {} 41 = some p41 := by kernel_rfl
def p42 : PFn :=
  ⟨21, [.t 2], .seq
    (.region [
      ⟨some 2, none, .mv true (.c (.int .u32 0))⟩])
    (.seq
     (.region [
       ⟨some 6, none, .mv false (.t 0)⟩,
       ⟨some 7, none, .cvI .u32 (.t 6)⟩,
       ⟨some 3, none, .mv true (.t 7)⟩])
     (.seq
      (.seq
       (.region [
         ⟨some 4, none, .mv true (.c (.int .i64 0))⟩])
       (.block 0
        (.loop
         (.seq
          (.seq
           (.region [
             ⟨some 8, none, .mv false (.t 4)⟩,
             ⟨some 9, none, .bin .lss (.t 8) (.c (.int .i64 8))⟩])
           (.cond (.t 9)
            .skip
            (.exit 0)))
          (.seq
           (.block 1
            (.seq
             (.region [
               ⟨some 12, none, .mv false (.t 3)⟩,
               ⟨some 13, none, .bin .rem (.t 12) (.c (.int .u32 2))⟩,
               ⟨some 14, none, .bin .eql (.t 13) (.c (.int .u32 1))⟩,
               ⟨some 5, none, .mv true (.t 14)⟩])
             (.seq
              (.region [
                ⟨some 15, none, .mv false (.t 3)⟩,
                ⟨some 16, none, .bin .quo (.t 15) (.c (.int .u32 2))⟩,
                ⟨some 3, none, .mv true (.t 16)⟩])
              (.seq
               (.region [
                 ⟨some 17, none, .mv false (.t 5)⟩])
               (.cond (.t 17)
                (.region [
                  ⟨some 18, none, .mv false (.t 3)⟩,
                  ⟨some 19, none, .bin .xor (.t 18) (.c (.int .u32 3988292384))⟩,
                  ⟨some 3, none, .mv true (.t 19)⟩])
                .skip)))))
           (.region [
             ⟨some 10, none, .mv false (.t 4)⟩,
             ⟨some 11, none, .bin .add (.t 10) (.c (.int .i64 1))⟩,
             ⟨some 4, none, .mv true (.t 11)⟩]))))))
      (.seq
       (.region [
         ⟨some 20, none, .mv true (.t 3)⟩,
         ⟨some 2, none, .mv true (.t 20)⟩])
       .ret)))⟩
theorem t42 : compF Try.prog {} 42 = some p42 := by kernel_rfl
def p23r : PFn :=
  ⟨23, [.t 0], .seq
    (.region [
      ⟨some 0, none, .mv true (.c (.lst 0 [] true))⟩])
    (.seq
     (.region [
       ⟨some 4, none, .mk 1 4 false [.int .u32 0] (.c (.int .i64 256)) (.c (.int .i64 256)) true⟩,
       ⟨some 1, none, .mv true (.t 4)⟩])
     (.seq
      (.seq
       (.region [
         ⟨some 5, none, .mv false (.t 1)⟩,
         ⟨some 6, none, .len false (.t 5)⟩,
         ⟨some 7, none, .mv false (.c (.int .i64 0))⟩])
       (.block 0
        (.loop
         (.seq
          (.region [
            ⟨some 8, none, .bin .lss (.t 7) (.t 6)⟩])
          (.seq
           (.cond (.t 8)
            .skip
            (.exit 0))
           (.seq
            (.block 1
             (.seq
              (.region [
                ⟨some 9, none, .mv true (.t 7)⟩,
                ⟨some 2, none, .mv true (.t 9)⟩])
              (.seq
               (.region [
                 ⟨some 10, none, .mv false (.t 2)⟩,
                 ⟨some 11, none, .cvI .u32 (.t 10)⟩,
                 ⟨some 3, none, .mv true (.t 11)⟩])
               (.seq
                (.seq
                 (.region [
                   ⟨some 12, none, .mv false (.c (.int .i64 0))⟩])
                 (.block 2
                  (.loop
                   (.seq
                    (.region [
                      ⟨some 13, none, .bin .lss (.t 12) (.c (.int .i64 8))⟩])
                    (.seq
                     (.cond (.t 13)
                      .skip
                      (.exit 2))
                     (.seq
                      (.block 3
                       (.region [
                         ⟨some 14, none, .mv false (.t 3)⟩,
                         ⟨some 15, none, .callF 31 [.t 14] []⟩,
                         ⟨some 3, none, .mv true (.t 15)⟩]))
                      (.region [
                        ⟨some 16, none, .bin .add (.t 12) (.c (.int .i64 1))⟩,
                        ⟨some 12, none, .mv false (.t 16)⟩])))))))
                (.region [
                  ⟨some 17, none, .mv false (.t 1)⟩,
                  ⟨some 18, none, .mv false (.t 2)⟩,
                  ⟨some 19, none, .mv true (.t 3)⟩,
                  ⟨some 20, none, .iad 1 (.t 17) (.t 18)⟩,
                  ⟨none, none, .sto 1 (.t 20) (.t 19)⟩])))))
            (.region [
              ⟨some 21, none, .bin .add (.t 7) (.c (.int .i64 1))⟩,
              ⟨some 7, none, .mv false (.t 21)⟩])))))))
      (.seq
       (.region [
         ⟨some 22, none, .mv true (.t 1)⟩,
         ⟨some 0, none, .mv true (.t 22)⟩])
       .ret)))⟩
theorem t23r : compF Try.prog { rows := [4] } 23 = some p23r := by kernel_rfl
def p22t : PFn :=
  ⟨36, [.t 2], .seq
    (.region [
      ⟨some 2, none, .mv true (.c (.lst 0 [] true))⟩])
    (.seq
     (.region [
       ⟨some 3, none, .mv true (.c (.int .i64 0))⟩])
     (.seq
      (.seq
       (.region [
         ⟨some 9, none, .mv false (.t 0)⟩,
         ⟨some 10, none, .len false (.t 9)⟩,
         ⟨some 11, none, .mv false (.c (.int .i64 0))⟩])
       (.block 0
        (.loop
         (.seq
          (.region [
            ⟨some 12, none, .bin .lss (.t 11) (.t 10)⟩])
          (.seq
           (.cond (.t 12)
            .skip
            (.exit 0))
           (.seq
            (.block 1
             (.seq
              (.region [
                ⟨some 13, none, .iad 1 (.t 9) (.t 11)⟩,
                ⟨some 14, none, .ld 1 false false (.t 13)⟩,
                ⟨some 5, none, .mv true (.t 14)⟩])
              (.seq
               (.region [
                 ⟨some 15, none, .mv false (.t 3)⟩,
                 ⟨some 16, none, .mv false (.t 5)⟩,
                 ⟨some 17, none, .len false (.t 16)⟩,
                 ⟨some 18, none, .bin .add (.t 15) (.t 17)⟩,
                 ⟨some 3, none, .mv true (.t 18)⟩])
               (.seq
                (.region [
                  ⟨some 19, none, .mv false (.t 3)⟩,
                  ⟨some 20, none, .bin .lss (.t 19) (.c (.int .i64 0))⟩])
                (.cond (.t 20)
                 (.region [
                   ⟨some 21, none, .bad⟩,
                   ⟨none, none, .bad⟩])
                 .skip)))))
            (.region [
              ⟨some 22, none, .bin .add (.t 11) (.c (.int .i64 1))⟩,
              ⟨some 11, none, .mv false (.t 22)⟩])))))))
      (.seq
       (.region [
         ⟨some 23, none, .mv false (.t 3)⟩,
         ⟨some 24, none, .callF 30 [.c (.lst 0 [] true), .t 23] [true]⟩,
         ⟨some 6, none, .mv true (.t 24)⟩])
       (.seq
        (.seq
         (.region [
           ⟨some 25, none, .mv false (.t 0)⟩,
           ⟨some 26, none, .len false (.t 25)⟩,
           ⟨some 27, none, .mv false (.c (.int .i64 0))⟩])
         (.block 2
          (.loop
           (.seq
            (.region [
              ⟨some 28, none, .bin .lss (.t 27) (.t 26)⟩])
            (.seq
             (.cond (.t 28)
              .skip
              (.exit 2))
             (.seq
              (.block 3
               (.seq
                (.region [
                  ⟨some 29, none, .iad 1 (.t 25) (.t 27)⟩,
                  ⟨some 30, none, .ld 1 false false (.t 29)⟩,
                  ⟨some 8, none, .mv true (.t 30)⟩])
                (.region [
                  ⟨some 31, none, .mv true (.t 6)⟩,
                  ⟨some 32, none, .mv false (.t 8)⟩,
                  ⟨some 33, none, .app 1 1 (.t 31) (.t 32)⟩,
                  ⟨some 6, none, .mv true (.t 33)⟩])))
              (.region [
                ⟨some 34, none, .bin .add (.t 27) (.c (.int .i64 1))⟩,
                ⟨some 27, none, .mv false (.t 34)⟩])))))))
        (.seq
         (.region [
           ⟨some 35, none, .mv true (.t 6)⟩,
           ⟨some 2, none, .mv true (.t 35)⟩])
         .ret)))))⟩
theorem t22t : compF Try.prog { takes := [(30, [true])] } 22 = some p22t := by kernel_rfl
def p11l : PFn :=
  ⟨22, [.t 2], .seq
    (.region [
      ⟨some 2, none, .mv true (.c (.lst 0 [] true))⟩])
    (.seq
     (.region [
       ⟨some 3, none, .al [.lst 0 [] true]⟩])
     (.seq
      (.region [
        ⟨some 8, none, .callF 23 [] []⟩,
        ⟨some 4, none, .al [.lst 0 [] true]⟩,
        ⟨none, none, .sto 1 (.t 4) (.t 8)⟩])
      (.seq
       (.seq
        (.region [
          ⟨some 9, none, .mv false (.t 0)⟩,
          ⟨some 10, none, .callF 24 [.t 9, .c (.int .i64 64)] []⟩])
        (.block 0
         (.rangeF (.t 10) [11] (.region [
           ⟨some 5, none, .mv true (.t 11)⟩]) (.block 1
          (.seq
           (.region [
             ⟨some 13, none, .ld 1 false false (.t 4)⟩,
             ⟨some 14, none, .mv false (.t 5)⟩,
             ⟨some 15, none, .callF 25 [.t 13, .t 14] []⟩,
             ⟨some 12, none, .mv true (.t 15)⟩,
             ⟨some 16, none, .ext true (.t 12) 0⟩,
             ⟨some 17, none, .ext false (.t 12) 1⟩,
             ⟨some 6, none, .mv true (.t 16)⟩,
             ⟨some 7, none, .mv true (.t 17)⟩])
           (.region [
             ⟨some 18, none, .ld 1 false true (.t 3)⟩,
             ⟨some 19, none, .mv false (.t 6)⟩,
             ⟨some 20, none, .app 1 1 (.t 18) (.t 19)⟩,
             ⟨none, none, .sto 1 (.t 3) (.t 20)⟩]))))))
       (.seq
        (.region [
          ⟨some 21, none, .ld 1 false true (.t 3)⟩,
          ⟨some 2, none, .mv true (.t 21)⟩])
        .ret))))⟩
theorem t11l : compF Try.prog { loads := [18, 21] } 11 = some p11l := by kernel_rfl
def p21l : PFn :=
  ⟨25, [.c 2 1 false, .c 3 1 false], .seq
    (.region [
      ⟨some 2, none, .al [.lst 0 [] true]⟩,
      ⟨some 3, none, .al [.int .i64 0]⟩])
    (.seq
     (.region [
       ⟨some 4, none, .al [.lst 0 [] true]⟩])
     (.seq
      (.region [
        ⟨some 9, none, .callF 23 [] []⟩,
        ⟨some 5, none, .al [.lst 0 [] true]⟩,
        ⟨none, none, .sto 1 (.t 5) (.t 9)⟩])
      (.seq
       (.seq
        (.region [
          ⟨some 10, none, .mv false (.t 0)⟩,
          ⟨some 11, none, .callF 24 [.t 10, .c (.int .i64 68)] []⟩])
        (.block 0
         (.rangeF (.t 11) [12] (.region [
           ⟨some 6, none, .mv true (.t 12)⟩]) (.block 1
          (.seq
           (.region [
             ⟨some 14, none, .mv false (.t 6)⟩,
             ⟨some 15, none, .ld 1 false false (.t 5)⟩,
             ⟨some 16, none, .callF 26 [.t 14, .t 15] []⟩,
             ⟨some 13, none, .mv true (.t 16)⟩,
             ⟨some 17, none, .ext true (.t 13) 0⟩,
             ⟨some 18, none, .ext false (.t 13) 1⟩,
             ⟨some 7, none, .mv true (.t 17)⟩,
             ⟨some 8, none, .mv true (.t 18)⟩])
           (.seq
            (.seq
             (.region [
               ⟨some 19, none, .mv false (.t 8)⟩,
               ⟨some 20, none, .un .not (.t 19)⟩])
             (.cond (.t 20)
              (.seq
               (.region [
                 ⟨none, none, .sto 1 (.t 2) (.c (.lst 0 [] true))⟩,
                 ⟨none, none, .sto 1 (.t 3) (.c (.int .i64 16))⟩])
               .ret)
              .skip))
            (.region [
              ⟨some 21, none, .ld 1 false true (.t 4)⟩,
              ⟨some 22, none, .mv false (.t 7)⟩,
              ⟨some 23, none, .app 1 1 (.t 21) (.t 22)⟩,
              ⟨none, none, .sto 1 (.t 4) (.t 23)⟩])))))))
       (.seq
        (.region [
          ⟨some 24, none, .ld 1 false true (.t 4)⟩,
          ⟨none, none, .sto 1 (.t 2) (.t 24)⟩,
          ⟨none, none, .sto 1 (.t 3) (.c (.int .i64 0))⟩])
        .ret))))⟩
theorem t21l : compF Try.prog { loads := [21, 24] } 21 = some p21l := by kernel_rfl
def tab : List (Nat × PFn) := [(2, p2), (3, p3), (4, p4), (5, p5), (6, p6), (7, p7), (8, p8), (9, p9), (10, p10), (11, p11), (12, p12), (13, p13), (14, p14), (15, p15), (16, p16), (17, p17), (18, p18), (19, p19), (20, p20), (21, p21), (22, p22), (23, p23), (24, p24), (25, p25), (26, p26), (27, p27), (28, p28), (29, p29), (30, p30), (31, p31), (32, p32), (33, p33), (34, p34), (35, p35), (36, p36), (37, p37), (38, p38), (39, p39), (40, p40), (41, p41), (42, p42)]
theorem tabOk : TabOk Try.prog tab := .cons t2 <| .cons t3 <| .cons t4 <| .cons t5 <| .cons t6 <| .cons t7 <| .cons t8 <| .cons t9 <| .cons t10 <| .cons t11 <| .cons t12 <| .cons t13 <| .cons t14 <| .cons t15 <| .cons t16 <| .cons t17 <| .cons t18 <| .cons t19 <| .cons t20 <| .cons t21 <| .cons t22 <| .cons t23 <| .cons t24 <| .cons t25 <| .cons t26 <| .cons t27 <| .cons t28 <| .cons t29 <| .cons t30 <| .cons t31 <| .cons t32 <| .cons t33 <| .cons t34 <| .cons t35 <| .cons t36 <| .cons t37 <| .cons t38 <| .cons t39 <| .cons t40 <| .cons t41 <| .cons t42 <| .nil
theorem hmix : Try.prog.follows .mixedOrders = true := by kernel_rfl
theorem good (n d : Nat) : Good Try.prog (evF (tabOf tab) noPrim n d) := evF_sound hmix tabOk noPrim_good d
end Go.Proofs.Ytkbdlgohmafglaa.E
/- Bytes as data: turned into strings, and cloned. -/
namespace Go.Proofs.Ytkbdlgohmafglaa.E
open Go Go.RowKit Go.Proofs
set_option linter.unusedVariables false
set_option linter.unusedSimpArgs false
theorem ci_u8 (l : List Nat) : (ci l).map (PV.int .u8) = l.map u8 := by simp [ci, Function.comp_def, u8]
theorem ci_len (l : List Nat) : (ci l).length = l.length := List.length_map ..
attribute [simp] ci_u8 ci_len
theorem clone_ok {s : Nat} {xs : List PV} {o : Bool} {l : List Nat} (hx : xs = l.map u8) (hs : s = 1 ∨ l.length = 0) (hl : l.length ≤ 100000000000000) :
    PSpec Try.prog 41 [.lst s xs o] (bV l true) := by
  subst hx
  intro H
  refine spec_ofU t41 (by simp [p41]) ?_
  simp only [p41]
  first | refine pwp_sr ?_ | refine pwp_regionM ?_
  intro K hK
  simp (disch := first | (refine Ok.mk ?_; (try simp only [Lm, La, Lc, Ln, Lt, Ld, Lr, Li, true_or, or_true, true_and, and_true]); omega) | (simp <;> fail) | skip) [runM_nil]
  refine hK _ _ ?_
  clear hK K
  cases l with
  | nil =>
    first | refine pwp_rif ?_ | refine pwp_rifE ?_
    intro K hK
    simp (disch := first | (refine Ok.mk ?_; (try simp only [Lm, La, Lc, Ln, Lt, Ld, Lr, Li, true_or, or_true, true_and, and_true]); omega) | (simp <;> fail) | skip) [runM_nil]
    refine ⟨hK _ _ ?_, hK _ _ ?_⟩ <;> clear hK K
    · refine ifF (by simp (disch := first | (refine Ok.mk ?_; (try simp only [Lm, La, Lc, Ln, Lt, Ld, Lr, Li, true_or, or_true, true_and, and_true]); omega) | (simp <;> fail) | skip) [runM_nil]) (pwp_skip ?_)
      first | refine pwp_sr ?_ | refine pwp_regionM ?_
      intro K hK
      simp (disch := first | (refine Ok.mk ?_; (try simp only [Lm, La, Lc, Ln, Lt, Ld, Lr, Li, true_or, or_true, true_and, and_true]); omega) | (simp <;> fail) | skip) [runM_nil]
      refine hK _ _ ?_
      clear hK K
      refine pwp_ret ⟨.inr rfl, _, _, _, (by simp (disch := first | (refine Ok.mk ?_; (try simp only [Lm, La, Lc, Ln, Lt, Ld, Lr, Li, true_or, or_true, true_and, and_true]); omega) | (simp <;> fail) | skip) [runM_nil, resL]; rfl), .refl _, (by simp (disch := first | (refine Ok.mk ?_; (try simp only [Lm, La, Lc, Ln, Lt, Ld, Lr, Li, true_or, or_true, true_and, and_true]); omega) | (simp <;> fail) | skip) [resV]), rfl, rfl⟩
    · refine ifT (by simp (disch := first | (refine Ok.mk ?_; (try simp only [Lm, La, Lc, Ln, Lt, Ld, Lr, Li, true_or, or_true, true_and, and_true]); omega) | (simp <;> fail) | skip) [runM_nil]) ?_
      first | refine pwp_sr ?_ | refine pwp_regionM ?_
      intro K hK
      simp (disch := first | (refine Ok.mk ?_; (try simp only [Lm, La, Lc, Ln, Lt, Ld, Lr, Li, true_or, or_true, true_and, and_true]); omega) | (simp <;> fail) | skip) [runM_nil]
      refine hK _ _ ?_
      clear hK K
      refine pwp_ret ⟨.inr rfl, _, _, _, (by simp (disch := first | (refine Ok.mk ?_; (try simp only [Lm, La, Lc, Ln, Lt, Ld, Lr, Li, true_or, or_true, true_and, and_true]); omega) | (simp <;> fail) | skip) [runM_nil, resL]; rfl), .refl _, (by simp (disch := first | (refine Ok.mk ?_; (try simp only [Lm, La, Lc, Ln, Lt, Ld, Lr, Li, true_or, or_true, true_and, and_true]); omega) | (simp <;> fail) | skip) [resV]), rfl, rfl⟩
  | cons x l =>
    obtain rfl : s = 1 := by simpa using hs
    rw [Lc] at hl
    first | refine pwp_rif ?_ | refine pwp_rifE ?_
    intro K hK
    simp (disch := first | (refine Ok.mk ?_; (try simp only [Lm, La, Lc, Ln, Lt, Ld, Lr, Li, true_or, or_true, true_and, and_true]); omega) | (simp <;> fail) | skip) [runM_nil]
    refine hK _ _ ?_
    clear hK K
    refine ifF (by simp (disch := first | (refine Ok.mk ?_; (try simp only [Lm, La, Lc, Ln, Lt, Ld, Lr, Li, true_or, or_true, true_and, and_true]); omega) | (simp <;> fail) | skip) [runM_nil]) (pwp_skip ?_)
    first | refine pwp_sr ?_ | refine pwp_regionM ?_
    intro K hK
    simp (disch := first | (refine Ok.mk ?_; (try simp only [Lm, La, Lc, Ln, Lt, Ld, Lr, Li, true_or, or_true, true_and, and_true]); omega) | (simp <;> fail) | skip) [runM_nil]
    refine hK _ _ ?_
    clear hK K
    refine pwp_ret ⟨.inr rfl, _, _, _, (by simp (disch := first | (refine Ok.mk ?_; (try simp only [Lm, La, Lc, Ln, Lt, Ld, Lr, Li, true_or, or_true, true_and, and_true]); omega) | (simp <;> fail) | skip) [runM_nil, resL]; rfl), .refl _, (by simp (disch := first | (refine Ok.mk ?_; (try simp only [Lm, La, Lc, Ln, Lt, Ld, Lr, Li, true_or, or_true, true_and, and_true]); omega) | (simp <;> fail) | skip) [resV]), rfl, rfl⟩
theorem toInts_u8 : ∀ l : List Nat, toInts (l.map u8) = some (ci l)
  | [] => rfl
  | x :: l => by simp [toInts, toInts_u8 l, ci]
theorem norm_ci {l : List Nat} (hw : ∀ x ∈ l, x < 256) : (ci l).map norm8 = ci l := by
  simp only [ci, List.map_map]
  refine List.map_congr_left fun x hx => ?_
  have := hw x hx
  simp only [Function.comp_apply]
  exact norm8_of (by omega)
theorem cvS_u8 {s : Nat} {xs : List PV} {o : Bool} {l : List Nat} (hx : xs = l.map u8) (hs : s = 1 ∨ l.length = 0) (hw : ∀ x ∈ l, x < 256) : cvSP (.lst s xs o) = some (.str (ci l)) := by
  subst hx
  have h1 : s = 1 ∨ (l.map u8).isEmpty = true := hs.imp id fun h => by rw [List.length_eq_zero_iff.1 h]; rfl
  simp only [cvSP, if_pos h1, toInts_u8, Option.map_some, norm_ci hw]
theorem ci_iff {a b : List Nat} : ci a = ci b ↔ a = b := ⟨ci_inj, fun h => by rw [h]⟩
attribute [simp] ci_iff ci_nil
end Go.Proofs.Ytkbdlgohmafglaa.E
/- Sums over bytes: the table, and what a register comes to. -/
namespace Go.Proofs.Ytkbdlgohmafglaa.E
open Go Go.RowKit Go.Proofs
set_option linter.unusedVariables false
set_option linter.unusedSimpArgs false
theorem stp_lt {c : Nat} (h : c < 4294967296) : stp c < 4294967296 := by
  unfold stp
  split
  · exact xor_lt32 (by omega) (by omega)
  · omega
theorem turn_ok (c : Nat) (h : c < 4294967296) : PSpec Try.prog 31 [.int .u32 c] (.int .u32 (stp c : Nat)) := by
  intro H
  have e : ((c : Int) / 2).toNat = c / 2 := by omega
  have hx : c / 2 ^^^ 3988292384 < 4294967296 := xor_lt32 (by omega) (by omega)
  refine spec_of t31 (by simp [p31]) ?_
  simp only [p31]
  first | refine pwp_sr ?_ | refine pwp_regionM ?_
  intro K hK
  simp (disch := first | (refine Ok.mk ?_; (try simp only [Lm, La, Lc, Ln, Lt, Ld, Lr, Li, true_or, or_true, true_and, and_true]); omega) | (simp <;> fail) | skip) [runM_nil]
  refine hK _ _ ?_
  clear hK K
  by_cases hc : c % 2 = 1
  · first | refine pwp_rif ?_ | refine pwp_rifE ?_
    intro K hK
    simp (disch := first | (refine Ok.mk ?_; (try simp only [Lm, La, Lc, Ln, Lt, Ld, Lr, Li, true_or, or_true, true_and, and_true]); omega) | (simp <;> fail) | skip) [runM_nil, hc]
    refine hK _ _ ?_
    clear hK K
    refine ifT (by simp (disch := first | (refine Ok.mk ?_; (try simp only [Lm, La, Lc, Ln, Lt, Ld, Lr, Li, true_or, or_true, true_and, and_true]); omega) | (simp <;> fail) | skip) [runM_nil]) ?_
    first | refine pwp_sr ?_ | refine pwp_regionM ?_
    intro K hK
    simp (disch := first | (refine Ok.mk ?_; (try simp only [Lm, La, Lc, Ln, Lt, Ld, Lr, Li, true_or, or_true, true_and, and_true]); omega) | (simp <;> fail) | skip) [runM_nil, e]
    refine hK _ _ ?_
    clear hK K
    refine pwp_ret ⟨.inr rfl, _, _, (by simp (disch := first | (refine Ok.mk ?_; (try simp only [Lm, La, Lc, Ln, Lt, Ld, Lr, Li, true_or, or_true, true_and, and_true]); omega) | (simp <;> fail) | skip) [runM_nil, resL, stp, hc]; rfl), .refl _, by simp (disch := first | (refine Ok.mk ?_; (try simp only [Lm, La, Lc, Ln, Lt, Ld, Lr, Li, true_or, or_true, true_and, and_true]); omega) | (simp <;> fail) | skip) [resV, stp, hc], rfl⟩
  · have hc0 : c % 2 = 0 := by omega
    first | refine pwp_rif ?_ | refine pwp_rifE ?_
    intro K hK
    simp (disch := first | (refine Ok.mk ?_; (try simp only [Lm, La, Lc, Ln, Lt, Ld, Lr, Li, true_or, or_true, true_and, and_true]); omega) | (simp <;> fail) | skip) [runM_nil, hc0]
    refine hK _ _ ?_
    clear hK K
    refine ifF (by simp (disch := first | (refine Ok.mk ?_; (try simp only [Lm, La, Lc, Ln, Lt, Ld, Lr, Li, true_or, or_true, true_and, and_true]); omega) | (simp <;> fail) | skip) [runM_nil]) (pwp_skip ?_)
    first | refine pwp_sr ?_ | refine pwp_regionM ?_
    intro K hK
    simp (disch := first | (refine Ok.mk ?_; (try simp only [Lm, La, Lc, Ln, Lt, Ld, Lr, Li, true_or, or_true, true_and, and_true]); omega) | (simp <;> fail) | skip) [runM_nil]
    refine hK _ _ ?_
    clear hK K
    refine pwp_ret ⟨.inr rfl, _, _, (by simp (disch := first | (refine Ok.mk ?_; (try simp only [Lm, La, Lc, Ln, Lt, Ld, Lr, Li, true_or, or_true, true_and, and_true]); omega) | (simp <;> fail) | skip) [runM_nil, resL, stp, hc]; rfl), .refl _, by simp (disch := first | (refine Ok.mk ?_; (try simp only [Lm, La, Lc, Ln, Lt, Ld, Lr, Li, true_or, or_true, true_and, and_true]); omega) | (simp <;> fail) | skip) [resV, stp, hc], rfl⟩
def stps : Nat → Nat → Nat
  | 0, c => c
  | n + 1, c => stp (stps n c)
theorem stps_lt {c : Nat} (h : c < 4294967296) : ∀ n, stps n c < 4294967296
  | 0 => h
  | n + 1 => stp_lt (stps_lt h n)
/-- The table, so far. -/
def tblC (i : Nat) : List PV := ((List.range i).map ent ++ List.replicate (256 - i) 0).map u32
theorem tblC_len {i : Nat} (h : i ≤ 256) : (tblC i).length = 256 := by simp [tblC]; omega
theorem tblC_set {i : Nat} (h : i < 256) : (tblC i).set i (.int .u32 (ent i : Nat)) = tblC (i + 1) := by
  have e1 : PV.int .u32 (ent i : Nat) = u32 (ent i) := rfl
  rw [e1]
  unfold tblC
  rw [← List.map_set]
  congr 1
  have e : 256 - i = (256 - (i + 1)) + 1 := by omega
  rw [List.set_append_right _ _ (by simp), List.length_map, List.length_range, Nat.sub_self, e, List.replicate_succ, List.set_cons_zero, List.range_succ, List.map_append, List.append_assoc]
  rfl
set_option maxRecDepth 4000 in
theorem table_ok : PSpec Try.prog 23 [] (.lst 1 (tbl.map u32) false) := by
  intro H
  refine spec_of t23r (by simp [p23r]) ?_
  simp only [p23r]
  first | refine pwp_sr ?_ | refine pwp_regionM ?_
  intro K hK
  simp (disch := first | (refine Ok.mk ?_; (try simp only [Lm, La, Lc, Ln, Lt, Ld, Lr, Li, true_or, or_true, true_and, and_true]); omega) | (simp <;> fail) | skip) [runM_nil]
  refine hK _ _ ?_
  clear hK K
  have e0 : List.replicate 256 (PV.int .u32 0) = tblC 0 := by simp [tblC, -List.reduceReplicate]
  first | refine pwp_sr ?_ | refine pwp_regionM ?_
  intro K hK
  simp (disch := first | (refine Ok.mk ?_; (try simp only [Lm, La, Lc, Ln, Lt, Ld, Lr, Li, true_or, or_true, true_and, and_true]); omega) | (simp <;> fail) | skip) [runM_nil, e0, -List.reduceReplicate]
  intro b h_b
  try simp (disch := first | (refine Ok.mk ?_; (try simp only [Lm, La, Lc, Ln, Lt, Ld, Lr, Li, true_or, or_true, true_and, and_true]); omega) | (simp <;> fail) | skip) [runM_nil, e0, -List.reduceReplicate]
  refine hK _ _ ?_
  clear hK K
  refine pwp_seq ?_
  first | refine pwp_sr ?_ | refine pwp_regionM ?_
  intro K hK
  simp (disch := first | (refine Ok.mk ?_; (try simp only [Lm, La, Lc, Ln, Lt, Ld, Lr, Li, true_or, or_true, true_and, and_true]); omega) | (simp <;> fail) | skip) [runM_nil]
  refine hK _ _ ?_
  clear hK K
  refine pwp_block ?_
  refine pwp_loopK [1, 6, 7] (fun m st H' => ∃ i : Nat, i ≤ 256 ∧ m = 256 - i ∧ H' = (b, tblC i) :: H ∧ st = MS 23 [(1, .row b 0 256 256), (6, .int .i64 256), (7, .int .i64 i)]) (n := 256)
    ⟨_, .refl _, 0, by omega, rfl, rfl, by simp [keepL_MS, keepA, getS]⟩ ?_
  rintro m st _ ⟨i, hi, rfl, rfl, rfl⟩
  have hlen := tblC_len hi
  by_cases hlt : i < 256
  · have hset := tblC_set hlt
    generalize tblC i = T at *
    first | refine pwp_sr ?_ | refine pwp_regionM ?_
    intro K hK
    simp (disch := first | (refine Ok.mk ?_; (try simp only [Lm, La, Lc, Ln, Lt, Ld, Lr, Li, true_or, or_true, true_and, and_true]); omega) | (simp <;> fail) | skip) [runM_nil]
    refine hK _ _ ?_
    clear hK K
    refine pwp_seq (pwp_cT (by simp) (pwp_skip ?_))
    refine pwp_seq (pwp_block ?_)
    first | refine pwp_sr ?_ | refine pwp_regionM ?_
    intro K hK
    simp (disch := first | (refine Ok.mk ?_; (try simp only [Lm, La, Lc, Ln, Lt, Ld, Lr, Li, true_or, or_true, true_and, and_true]); omega) | (simp <;> fail) | skip) [runM_nil]
    refine hK _ _ ?_
    clear hK K
    first | refine pwp_sr ?_ | refine pwp_regionM ?_
    intro K hK
    simp (disch := first | (refine Ok.mk ?_; (try simp only [Lm, La, Lc, Ln, Lt, Ld, Lr, Li, true_or, or_true, true_and, and_true]); omega) | (simp <;> fail) | skip) [runM_nil]
    refine hK _ _ ?_
    clear hK K
    refine pwp_seq (pwp_seq ?_)
    first | refine pwp_sr ?_ | refine pwp_regionM ?_
    intro K hK
    simp (disch := first | (refine Ok.mk ?_; (try simp only [Lm, La, Lc, Ln, Lt, Ld, Lr, Li, true_or, or_true, true_and, and_true]); omega) | (simp <;> fail) | skip) [runM_nil]
    refine hK _ _ ?_
    clear hK K
    refine pwp_block ?_
    refine pwp_loopK [1, 2, 3, 6, 7, 12] (fun m st H' => ∃ j : Nat, j ≤ 8 ∧ m = 8 - j ∧ H' = (b, T) :: H ∧ st = MS 23 [(1, .row b 0 256 256), (2, .int .i64 i), (3, .int .u32 (stps j i : Nat)), (6, .int .i64 256), (7, .int .i64 i), (12, .int .i64 j)]) (n := 8)
      ⟨_, .refl _, 0, by omega, rfl, rfl, by simp [keepL_MS, keepA, getS, stps]⟩ ?_
    rintro m st _ ⟨j, hj, rfl, rfl, rfl⟩
    have hsl := stps_lt (c := i) (by omega) j
    by_cases hj8 : j < 8
    · first | refine pwp_sr ?_ | refine pwp_regionM ?_
      intro K hK
      simp (disch := first | (refine Ok.mk ?_; (try simp only [Lm, La, Lc, Ln, Lt, Ld, Lr, Li, true_or, or_true, true_and, and_true]); omega) | (simp <;> fail) | skip) [runM_nil]
      refine hK _ _ ?_
      clear hK K
      refine pwp_seq (pwp_cT (by simp) (pwp_skip ?_))
      refine pwp_seq (pwp_block ?_)
      first | refine pwp_sr ?_ | refine pwp_regionM ?_
      intro K hK
      simp (disch := first | (refine Ok.mk ?_; (try simp only [Lm, La, Lc, Ln, Lt, Ld, Lr, Li, true_or, or_true, true_and, and_true]); omega) | (simp <;> fail) | skip) [runM_nil]
      refine useP (turn_ok _ hsl) ?_
      simp (disch := first | (refine Ok.mk ?_; (try simp only [Lm, La, Lc, Ln, Lt, Ld, Lr, Li, true_or, or_true, true_and, and_true]); omega) | (simp <;> fail) | skip) [runM_nil]
      refine hK _ _ ?_
      clear hK K
      first | refine pwp_sr ?_ | refine pwp_regionM ?_
      intro K hK
      simp (disch := first | (refine Ok.mk ?_; (try simp only [Lm, La, Lc, Ln, Lt, Ld, Lr, Li, true_or, or_true, true_and, and_true]); omega) | (simp <;> fail) | skip) [runM_nil]
      refine hK _ _ ?_
      clear hK K
      exact ⟨8 - (j + 1), by omega, _, .refl _, j + 1, by omega, rfl, rfl, by simp [keepL_MS, keepA, getS, stps]⟩
    · obtain rfl : j = 8 := by omega
      first | refine pwp_sr ?_ | refine pwp_regionM ?_
      intro K hK
      simp (disch := first | (refine Ok.mk ?_; (try simp only [Lm, La, Lc, Ln, Lt, Ld, Lr, Li, true_or, or_true, true_and, and_true]); omega) | (simp <;> fail) | skip) [runM_nil]
      refine hK _ _ ?_
      clear hK K
      refine pwp_seq (pwp_cF (by simp) (pwp_exit ?_))
      have he : stps 8 i = ent i := rfl
      have hsc := set_cell (cs := T) (i := i) (v := .int .u32 (ent i : Nat)) (by omega)
      first | refine pwp_sr ?_ | refine pwp_regionM ?_
      intro K hK
      simp (disch := first | (refine Ok.mk ?_; (try simp only [Lm, La, Lc, Ln, Lt, Ld, Lr, Li, true_or, or_true, true_and, and_true]); omega) | (simp <;> fail) | skip) [runM_nil, he, hlen, hsc, hset]
      refine hK _ _ ?_
      clear hK K
      first | refine pwp_sr ?_ | refine pwp_regionM ?_
      intro K hK
      simp (disch := first | (refine Ok.mk ?_; (try simp only [Lm, La, Lc, Ln, Lt, Ld, Lr, Li, true_or, or_true, true_and, and_true]); omega) | (simp <;> fail) | skip) [runM_nil]
      refine hK _ _ ?_
      clear hK K
      exact ⟨256 - (i + 1), by omega, _, .refl _, i + 1, by omega, rfl, rfl, by simp [keepL_MS, keepA, getS]⟩
  · obtain rfl : i = 256 := by omega
    first | refine pwp_sr ?_ | refine pwp_regionM ?_
    intro K hK
    simp (disch := first | (refine Ok.mk ?_; (try simp only [Lm, La, Lc, Ln, Lt, Ld, Lr, Li, true_or, or_true, true_and, and_true]); omega) | (simp <;> fail) | skip) [runM_nil]
    refine hK _ _ ?_
    clear hK K
    refine pwp_seq (pwp_cF (by simp) (pwp_exit ?_))
    refine pwp_ro h_b ?_
    have hr : rowL 1 false (tblC 256) 256 256 = some (.lst 1 (tbl.map u32) false) := by
      have e1 : tblC 256 = tbl.map u32 := by simp [tblC, tbl]
      rw [e1, rowL_plain (lendL_map (fun a => rfl) tbl) (by rw [Lm]; exact tbl_length) (by omega)]
    first | refine pwp_sr ?_ | refine pwp_regionM ?_
    intro K hK
    simp (disch := first | (refine Ok.mk ?_; (try simp only [Lm, La, Lc, Ln, Lt, Ld, Lr, Li, true_or, or_true, true_and, and_true]); omega) | (simp <;> fail) | skip) [runM_nil, hr]
    refine hK _ _ ?_
    clear hK K
    refine pwp_ret ⟨.inr rfl, _, _, (by simp (disch := first | (refine Ok.mk ?_; (try simp only [Lm, La, Lc, Ln, Lt, Ld, Lr, Li, true_or, or_true, true_and, and_true]); omega) | (simp <;> fail) | skip) [runM_nil, resL]; rfl), .refl _, by simp (disch := first | (refine Ok.mk ?_; (try simp only [Lm, La, Lc, Ln, Lt, Ld, Lr, Li, true_or, or_true, true_and, and_true]); omega) | (simp <;> fail) | skip) [resV], rfl⟩
end Go.Proofs.Ytkbdlgohmafglaa.E
/- slices.Grow of a nil slice, over the model itself. -/
namespace Go.Proofs.Ytkbdlgohmafglaa.E
open Go Go.RowKit Go.Proofs
set_option linter.unusedVariables false
set_option linter.unusedSimpArgs false
theorem growNil_run {P : Program} {t ti ty e : TypeId} {i : TypeInfo} {z : Value} {k : IntKind} (ht : P.underlying t = some (.slice e)) (hti : P.underlying ti = some (.int k)) (hi : P.info? e = some i) (hz : i.zero = some z)
    (hzs : z.cells.size = i.size) (hsz : 0 < i.size) (hby : 1 ≤ i.bytes) (A : Option Addr) (n : Nat) (hn : 0 < n) (hb : n * i.bytes ≤ 140737488355328) (w : World) :
    ∃ cap rest, n ≤ cap ∧ cap ≤ maxLen ∧ rest.size = cap * i.size ∧ (Builtin.append_ #[t, ti] ty #[.slice A 0 0, .int .i64 n]).run P w = .ok (.slice (some ⟨w.heap.size, 0, none⟩) n cap) (w.drew.alloc (.cells rest e)) := by
  have hle : n ≤ 140737488355328 := Nat.le_trans (Nat.le_mul_of_pos_right _ hby) hb
  have h63 : n ≤ maxLen := by simp only [maxLen]; omega
  have hw : IntKind.i64.wrap (n : Int) = n := by rw [IntKind.wrap_i64]; omega
  have hneg : ¬ ((n : Int) < 0) := by omega
  have hbig : ¬ (281474976710656 < (n : Int) * (i.bytes : Int)) := by rw [← Int.natCast_mul]; omega
  have hcapn : ¬ (0 + n ≤ 0) := by omega
  have h63' : ¬ (9223372036854775807 < (((0 : Nat) : Int) + (n : Int))) := by simp only [maxLen] at h63; omega
  have hfit := growslice_fits (need := n) (old := 0) (bytes := i.bytes) (by omega) hb
  have h48' : ¬ (281474976710656 < Builtin.nextslicecap (0 + n) 0 * i.bytes) := by rw [Nat.zero_add]; omega
  have hsn : i.size ≠ 0 := by omega
  have hmz : ¬ (n * i.size = 0) := Nat.mul_ne_zero (by omega) hsn
  have hfc : (Builtin.firstCells i.size 0 (.slice A 0 0)).run P w.drew = .ok #[] w.drew := by cases A <;> simp [Builtin.firstCells, loadCells, loadCellsFrom]
  refine ⟨grownCap w n 0 e, Builtin.zeroCells z.cells n ++ Builtin.zeroCells z.cells (grownCap w n 0 e - n), grownCap_ge _ _ _ _, grownCap_le_maxLen _ _ _ _ h63, ?_, ?_⟩
  · have := grownCap_ge w n 0 e
    rw [Array.size_append, size_zeroCells, size_zeroCells, hzs, ← Nat.add_mul]
    congr 1
    omega
  · simp only [Nat.zero_add] at hcapn h63' h48'
    have hn0 : n ≠ 0 := by omega
    simp [Builtin.append_, run_underlying ht, run_underlying hti, sizeOf, typeInfo, zeroValue, hi, hz, asInt, asIntOf, hw, hneg, hbig, h48', Question.forced, newRow, grownCap, hmz, hn0, hfc]
    omega
/-- What a call that makes a value comes to. -/
theorem spec_step {P : Program} {f : Nat} {args : List PV} {r : PV} (hc : callable P f = true) (h : ∀ (out : List Nat) (w : World) (g : Ghost) (vals : Array Value), WRel out w g → VRl true w g args vals.toList →
    Calls P f vals w fun e w' => ∃ v g', e = .returned v ∧ Step [] w g w' g' r v) : PSpec P f args r := by
  refine fun H => ⟨hc, fun out w g vals hw hH hV hun => (h out w g vals hw hV).mono ?_⟩
  rintro e w' ⟨v, g', rfl, hs⟩
  have hlt : ∀ b f, g b = .tail f → b < w.heap.size := fun b f hf => hw.lt (by rw [hf]; simp)
  have hE : Evol (out ++ toksH w H) w g w' g' := hs.toStep0.evol (by simp) fun b hb => by
    refine ⟨?_, by simp⟩
    rcases List.mem_append.1 hb with hb | hb
    · obtain ⟨f, hf⟩ := hw.outT b hb; exact hlt b f hf
    · obtain ⟨f, hf⟩ := toksH_tail hH b hb; exact hlt b f hf
  have hm : ∀ b, g b = .mut → w'.heap[b]? = w.heap[b]? ∧ g' b = .mut := fun b hb => by
    obtain ⟨k1, k2⟩ := hs.old b (hw.lt (by rw [hb]; simp)) (by simp)
    exact ⟨k1, k2.trans hb⟩
  obtain ⟨hH', hT⟩ := HRel.keep hE hm hH (fun b hb => List.mem_append_right _ hb)
  refine ⟨v, r, H, g', rfl, ⟨rfl, rfl⟩, hs.toStep0.wrel hw (by simp), hH', hs.rv, fun b => ?_, hE.sub (fun b hb => List.mem_append_left _ hb)⟩
  rw [hT]
  have h1 := hun b
  have h2 := hs.rt b
  by_cases hb : b ∈ toks r v
  · rcases hs.rs b hb with hm | hm
    · cases hm
    · have z1 : (toksH w H).count b = 0 := count_mem_zero fun hh => by obtain ⟨f, hf⟩ := toksH_tail hH b hh; have := hlt b f hf; omega
      have z2 : out.count b = 0 := count_mem_zero fun hh => by obtain ⟨f, hf⟩ := hw.outT b hh; have := hlt b f hf; omega
      omega
  · have := count_mem_zero hb
    omega
theorem wp_growNil {P : Program} {ops : Array Oper} {rest' : List Oper} {o : Oper} {a : Act} {W : World} {Q : Exit → Act → World → Prop} (hgd : o.guard = none) (s x : Operand) (t ti e : TypeId) {i : TypeInfo} {z : Value} {k : IntKind}
    (ho : o.op = .call { callee := .builtin .append, args := #[s, x], argTypes := #[t, ti] }) (ht : P.underlying t = some (.slice e)) (hti : P.underlying ti = some (.int k)) (hi : P.info? e = some i) (hz : i.zero = some z)
    (hzs : z.cells.size = i.size) (hsz : 0 < i.size) (hby : 1 ≤ i.bytes) (A : Option Addr) (n : Nat) (hn : 0 < n) (hb : n * i.bytes ≤ 140737488355328) (hs : a.eval s = .slice A 0 0) (hx : a.eval x = .int .i64 n)
    (h : ∀ cap rest, n ≤ cap → cap ≤ maxLen → rest.size = cap * i.size → wpList P ops Q rest' (a.put o.dst (.slice (some ⟨W.heap.size, 0, none⟩) n cap)) (W.drew.alloc (.cells rest e))) : wpList P ops Q (o :: rest') a W := by
  obtain ⟨cap, rest, k1, k2, k3, hr1⟩ := growNil_run (ty := o.type) ht hti hi hz hzs hsz hby A n hn hb W
  refine wpList_plain hgd fun K hK => ?_
  unfold Oper.wp execOp
  simp only [ho, resolve, invoke, builtin, Sem.run_bind, Sem.run_pure, Result.andThen_ok, List.map_toArray, List.map_cons, List.map_nil, hs, hx, hr1]
  exact hK _ _ (h cap rest k1 k2 k3)
theorem slice_len {P : Program} {t e : TypeId} {i : TypeInfo} (ht : P.underlying t = some (.slice e)) (hi : P.info? e = some i) (A : Option Addr) (n c : Nat) (hc : n ≤ c) :
    ∀ W : World, (Instr.slice t (.slice A n c) none (some (.int .i64 0)) none).run P W = .ok (.slice A 0 c) W := by
  intro W
  have hel : P.elem t = e := by simp [Program.elem, ht]
  have hu : P.underlying t = some (.slice (P.elem t)) := by rw [hel]; exact ht
  have ha : (A.map fun x => x.add 0) = A := by cases A <;> simp [Addr.add]
  rw [run_slice_h W t A n c hu .i64 0 (by omega) (by omega), hel]
  simp [sizeOf, typeInfo, hi, sliced, Result.andThen, ha]
theorem grow_ok (n : Nat) (hn : n ≤ 100000000000000) : PSpec Try.prog 30 [.lst 0 [] true, .int .i64 n] (.lst 1 [] true) := by
  refine spec_step (by kernel_rfl) ?_
  intro out w g vals hw hV
  obtain ⟨v, vs, e1, hv, v2, vs2, e2, hv2, e3⟩ := hV
  subst e2 e3
  obtain ⟨A, cap, rfl, c1, c2, c3, c4⟩ := hv
  obtain rfl : cap = 0 := by
    by_cases h : ([] : List PV).length < cap
    · exact absurd (c4 rfl rfl h).1 (by omega)
    · simpa using h
  cases hv2
  obtain rfl : vals = #[.slice A 0 0, .int .i64 n] := by cases vals; simp_all
  have hinfo : (Try.prog.info? 5).map (fun i => (i.zero, i.size, i.bytes)) = some (some (.int .u8 0), 1, 1) := by kernel_rfl
  obtain ⟨i, hi, hzz⟩ := Option.map_eq_some_iff.1 hinfo
  simp only [Prod.mk.injEq] at hzz
  obtain ⟨hz0, hz1, hz2⟩ := hzz
  have c1 : decide ((n : Int) < 0) = false := decide_eq_false (by omega)
  have e1 : IntKind.i64.wrap (n : Int) = n := by rw [IntKind.wrap_i64]; omega
  have hcap : ∀ W : World, (Instr.slice 23 (.slice A 0 0) none (some (.int .i64 0)) none).run Try.prog W = .ok (.slice A 0 0) W := slice_len Try.underlying23 hi A 0 0 (Nat.le_refl _)
  by_cases hp : 0 < n
  · have c2 : decide (0 < (n : Int)) = true := decide_eq_true (by omega)
    go_enter Try.func30, Try.ntmps30
    go_wp2_with (first | (at_builtin; refine wp_growNil rfl (.tmp 20) (.tmp 21) 23 3 5 rfl Try.underlying23 Try.underlying3 hi hz0 (by rw [hz1]; rfl) (by omega) (by omega) A n hp (by rw [hz2]; omega) rfl rfl ?_; intro cap rest k1 k2 k3; have hcut := slice_len Try.underlying23 hi (some ⟨w.heap.size, 0, none⟩) n cap k1))
    go_ret
    have hS : Step0 [] w g (w.drew.alloc (.cells rest 5)) (upd g w.heap.size (.tail 0)) := Step0.alloc (out := out) (tk := []) (fz := (0, 0)) hw rfl rfl rfl rfl (by simp) (fun f hf => by cases hf; exact ⟨rfl, Nat.zero_le _⟩)
    have ht : ∀ b ∈ toks (.lst 1 [] true) (.slice (some ⟨w.heap.size, 0, none⟩) 0 cap), b = w.heap.size := fun b hb => by
      rw [toks_lst (n := 0) rfl] at hb
      split at hb
      · simpa using hb
      · cases hb
    refine ⟨.slice (some ⟨w.heap.size, 0, none⟩) 0 cap, rfl, upd g w.heap.size (.tail 0), ⟨hS, ?_, fun b => ?_, fun b hb => .inr (by rw [ht b hb]; exact Nat.le_refl _)⟩⟩
    · refine ⟨_, cap, rfl, Nat.zero_le _, k2, .inl rfl, fun _ _ hlt => ⟨by omega, w.heap.size, rest, _, rfl, heap_alloc_new w.drew _, by rw [upd_same]; rfl, by rw [k3, hz1]; omega⟩⟩
    · rw [toks_lst (n := 0) rfl]
      exact count_one _ _ _
  · obtain rfl : n = 0 := by omega
    go_enter Try.func30, Try.ntmps30
    go_wp2
    go_ret
    refine ⟨_, rfl, g, Step.same hw ⟨A, 0, rfl, Nat.le_refl _, Nat.zero_le _, .inl rfl, fun _ _ h => absurd h (by simp)⟩ (by cases A <;> simp [toks])⟩
end Go.Proofs.Ytkbdlgohmafglaa.E
/- Sums over bytes: sealed, and opened. -/
namespace Go.Proofs.Ytkbdlgohmafglaa.E
open Go Go.RowKit Go.Proofs
set_option linter.unusedVariables false
set_option linter.unusedSimpArgs false
def rowsV (ls : List (Nat × List Nat)) : List PV := ls.map fun p => .lst p.1 (p.2.map u8) false
def flat (ls : List (Nat × List Nat)) (i : Nat) : List Nat := (ls.take i).flatMap (·.2)
theorem flat_succ {ls : List (Nat × List Nat)} {i : Nat} (h : i < ls.length) : flat ls (i + 1) = flat ls i ++ ls[i].2 := by
  rw [flat, List.take_succ_eq_append_getElem h, List.flatMap_append]
  simp [flat]
theorem flat_le {ls : List (Nat × List Nat)} (i : Nat) : (flat ls i).length ≤ (ls.flatMap (·.2)).length := by
  have h : ls.flatMap (·.2) = flat ls i ++ (ls.drop i).flatMap (·.2) := by rw [flat, ← List.flatMap_append, List.take_append_drop]
  rw [h, List.length_append]
  omega
theorem flat_all (ls : List (Nat × List Nat)) : flat ls ls.length = ls.flatMap (·.2) := by rw [flat, List.take_length]
set_option maxRecDepth 4000 in
theorem concat_ok {es : List PV} {o : Bool} (ls : List (Nat × List Nat)) (he : es = rowsV ls) (hs : ∀ p ∈ ls, p.1 = 1 ∨ p.2.length = 0) (hn : ls.length ≤ 1000000) (hl : (ls.flatMap (·.2)).length ≤ 100000000000000) :
    PSpec Try.prog 22 [.lst 1 es o] (bV (ls.flatMap (·.2)) true) := by
  intro H
  have hel : es.length = ls.length := by rw [he, rowsV, Lm]
  have hge : ∀ i (h : i < ls.length), es[i]? = some (.lst ls[i].1 (ls[i].2.map u8) false) := fun i h => by rw [he, rowsV, List.getElem?_map, List.getElem?_eq_getElem h]; rfl
  clear he
  refine spec_of t22t (by simp [p22t]) ?_
  simp only [p22t]
  first | refine pwp_sr ?_ | refine pwp_regionM ?_
  intro K hK
  simp (disch := first | (refine Ok.mk ?_; (try simp only [Lm, La, Lc, Ln, Lt, Ld, Lr, Li, true_or, or_true, true_and, and_true]); omega) | (simp <;> fail) | skip) [runM_nil]
  refine hK _ _ ?_
  clear hK K
  first | refine pwp_sr ?_ | refine pwp_regionM ?_
  intro K hK
  simp (disch := first | (refine Ok.mk ?_; (try simp only [Lm, La, Lc, Ln, Lt, Ld, Lr, Li, true_or, or_true, true_and, and_true]); omega) | (simp <;> fail) | skip) [runM_nil]
  refine hK _ _ ?_
  clear hK K
  refine pwp_seq (pwp_seq ?_)
  first | refine pwp_sr ?_ | refine pwp_regionM ?_
  intro K hK
  simp (disch := first | (refine Ok.mk ?_; (try simp only [Lm, La, Lc, Ln, Lt, Ld, Lr, Li, true_or, or_true, true_and, and_true]); omega) | (simp <;> fail) | skip) [runM_nil, hel]
  refine hK _ _ ?_
  clear hK K
  refine pwp_block ?_
  refine pwp_loopK [0, 3, 9, 10, 11] (fun m st H' => ∃ i : Nat, i ≤ ls.length ∧ m = ls.length - i ∧ H' = H ∧ st = MS 36 [(0, .lst 1 es o), (3, .int .i64 (flat ls i).length), (9, .lst 1 es false), (10, .int .i64 ls.length), (11, .int .i64 i)]) (n := ls.length)
    ⟨_, .refl _, 0, Nat.zero_le _, rfl, rfl, by simp [keepL_MS, keepA, getS, flat]⟩ ?_
  rintro m st H' ⟨i, hi, rfl, rfl, rfl⟩
  by_cases hlt : i < ls.length
  · have hg := hge i hlt
    have hf := flat_succ hlt
    have hfl := flat_le (ls := ls) (i + 1)
    have hfl2 := congrArg List.length hf
    rw [La] at hfl2
    generalize ls[i] = q at *
    first | refine pwp_sr ?_ | refine pwp_regionM ?_
    intro K hK
    simp (disch := first | (refine Ok.mk ?_; (try simp only [Lm, La, Lc, Ln, Lt, Ld, Lr, Li, true_or, or_true, true_and, and_true]); omega) | (simp <;> fail) | skip) [runM_nil, hel]
    refine hK _ _ ?_
    clear hK K
    refine pwp_seq (pwp_cT (by simp) (pwp_skip ?_))
    refine pwp_seq (pwp_block ?_)
    first | refine pwp_sr ?_ | refine pwp_regionM ?_
    intro K hK
    simp (disch := first | (refine Ok.mk ?_; (try simp only [Lm, La, Lc, Ln, Lt, Ld, Lr, Li, true_or, or_true, true_and, and_true]); omega) | (simp <;> fail) | skip) [runM_nil, hg, hel]
    refine hK _ _ ?_
    clear hK K
    first | refine pwp_sr ?_ | refine pwp_regionM ?_
    intro K hK
    simp (disch := first | (refine Ok.mk ?_; (try simp only [Lm, La, Lc, Ln, Lt, Ld, Lr, Li, true_or, or_true, true_and, and_true]); omega) | (simp <;> fail) | skip) [runM_nil]
    refine hK _ _ ?_
    clear hK K
    first | refine pwp_rif ?_ | refine pwp_rifE ?_
    intro K hK
    simp (disch := first | (refine Ok.mk ?_; (try simp only [Lm, La, Lc, Ln, Lt, Ld, Lr, Li, true_or, or_true, true_and, and_true]); omega) | (simp <;> fail) | skip) [runM_nil]
    refine hK _ _ ?_
    clear hK K
    refine ifF (by simp (disch := first | (refine Ok.mk ?_; (try simp only [Lm, La, Lc, Ln, Lt, Ld, Lr, Li, true_or, or_true, true_and, and_true]); omega) | (simp <;> fail) | skip) [runM_nil]) (pwp_skip ?_)
    first | refine pwp_sr ?_ | refine pwp_regionM ?_
    intro K hK
    simp (disch := first | (refine Ok.mk ?_; (try simp only [Lm, La, Lc, Ln, Lt, Ld, Lr, Li, true_or, or_true, true_and, and_true]); omega) | (simp <;> fail) | skip) [runM_nil]
    refine hK _ _ ?_
    clear hK K
    exact ⟨ls.length - (i + 1), by omega, _, .refl _, i + 1, by omega, rfl, rfl, by simp [keepL_MS, keepA, getS, hfl2]⟩
  · obtain rfl : i = ls.length := by omega
    first | refine pwp_sr ?_ | refine pwp_regionM ?_
    intro K hK
    simp (disch := first | (refine Ok.mk ?_; (try simp only [Lm, La, Lc, Ln, Lt, Ld, Lr, Li, true_or, or_true, true_and, and_true]); omega) | (simp <;> fail) | skip) [runM_nil, hel]
    refine hK _ _ ?_
    clear hK K
    refine pwp_seq (pwp_cF (by simp) (pwp_exit ?_))
    have hfa := flat_all ls
    generalize hF : ls.flatMap (·.2) = F at *
    rw [hfa]
    first | refine pwp_sr ?_ | refine pwp_regionM ?_
    intro K hK
    simp (disch := first | (refine Ok.mk ?_; (try simp only [Lm, La, Lc, Ln, Lt, Ld, Lr, Li, true_or, or_true, true_and, and_true]); omega) | (simp <;> fail) | skip) [runM_nil]
    refine useP (grow_ok _ hl) ?_
    simp (disch := first | (refine Ok.mk ?_; (try simp only [Lm, La, Lc, Ln, Lt, Ld, Lr, Li, true_or, or_true, true_and, and_true]); omega) | (simp <;> fail) | skip) [runM_nil]
    refine hK _ _ ?_
    clear hK K
    refine pwp_seq (pwp_seq ?_)
    first | refine pwp_sr ?_ | refine pwp_regionM ?_
    intro K hK
    simp (disch := first | (refine Ok.mk ?_; (try simp only [Lm, La, Lc, Ln, Lt, Ld, Lr, Li, true_or, or_true, true_and, and_true]); omega) | (simp <;> fail) | skip) [runM_nil, hel]
    refine hK _ _ ?_
    clear hK K
    refine pwp_block ?_
    refine pwp_loopK [6, 25, 26, 27] (fun m st H2 => ∃ i : Nat, i ≤ ls.length ∧ m = ls.length - i ∧ H2 = H' ∧ st = MS 36 [(6, bV (flat ls i) true), (25, .lst 1 es false), (26, .int .i64 ls.length), (27, .int .i64 i)]) (n := ls.length)
      ⟨_, .refl _, 0, Nat.zero_le _, rfl, rfl, by simp [keepL_MS, keepA, getS, flat]⟩ ?_
    clear hlt hi
    rintro m st _ ⟨i, hi, rfl, rfl, rfl⟩
    by_cases hlt : i < ls.length
    · have hg := hge i hlt
      have hsi := hs _ (List.getElem_mem hlt)
      have hf := flat_succ hlt
      have hfl := flat_le (ls := ls) (i + 1)
      rw [hF] at hfl
      have hfl2 := congrArg List.length hf
      rw [La] at hfl2
      generalize ls[i] = q at *
      first | refine pwp_sr ?_ | refine pwp_regionM ?_
      intro K hK
      simp (disch := first | (refine Ok.mk ?_; (try simp only [Lm, La, Lc, Ln, Lt, Ld, Lr, Li, true_or, or_true, true_and, and_true]); omega) | (simp <;> fail) | skip) [runM_nil, hel]
      refine hK _ _ ?_
      clear hK K
      refine pwp_seq (pwp_cT (by simp) (pwp_skip ?_))
      refine pwp_seq (pwp_block ?_)
      first | refine pwp_sr ?_ | refine pwp_regionM ?_
      intro K hK
      simp (disch := first | (refine Ok.mk ?_; (try simp only [Lm, La, Lc, Ln, Lt, Ld, Lr, Li, true_or, or_true, true_and, and_true]); omega) | (simp <;> fail) | skip) [runM_nil, hg, hel]
      refine hK _ _ ?_
      clear hK K
      first | refine pwp_sr ?_ | refine pwp_regionM ?_
      intro K hK
      simp (disch := first | (refine Ok.mk ?_; (try simp only [Lm, La, Lc, Ln, Lt, Ld, Lr, Li, true_or, or_true, true_and, and_true]); omega) | (simp <;> fail) | skip) [runM_nil]
      refine hK _ _ ?_
      clear hK K
      first | refine pwp_sr ?_ | refine pwp_regionM ?_
      intro K hK
      simp (disch := first | (refine Ok.mk ?_; (try simp only [Lm, La, Lc, Ln, Lt, Ld, Lr, Li, true_or, or_true, true_and, and_true]); omega) | (simp <;> fail) | skip) [runM_nil]
      refine hK _ _ ?_
      clear hK K
      exact ⟨ls.length - (i + 1), by omega, _, .refl _, i + 1, by omega, rfl, rfl, by simp [keepL_MS, keepA, getS, hf]⟩
    · obtain rfl : i = ls.length := by omega
      first | refine pwp_sr ?_ | refine pwp_regionM ?_
      intro K hK
      simp (disch := first | (refine Ok.mk ?_; (try simp only [Lm, La, Lc, Ln, Lt, Ld, Lr, Li, true_or, or_true, true_and, and_true]); omega) | (simp <;> fail) | skip) [runM_nil, hel]
      refine hK _ _ ?_
      clear hK K
      refine pwp_seq (pwp_cF (by simp) (pwp_exit ?_))
      rw [hfa]
      first | refine pwp_sr ?_ | refine pwp_regionM ?_
      intro K hK
      simp (disch := first | (refine Ok.mk ?_; (try simp only [Lm, La, Lc, Ln, Lt, Ld, Lr, Li, true_or, or_true, true_and, and_true]); omega) | (simp <;> fail) | skip) [runM_nil]
      refine hK _ _ ?_
      clear hK K
      refine pwp_ret ⟨.inr rfl, _, _, (by simp (disch := first | (refine Ok.mk ?_; (try simp only [Lm, La, Lc, Ln, Lt, Ld, Lr, Li, true_or, or_true, true_and, and_true]); omega) | (simp <;> fail) | skip) [runM_nil, resL]; rfl), .refl _, by simp (disch := first | (refine Ok.mk ?_; (try simp only [Lm, La, Lc, Ln, Lt, Ld, Lr, Li, true_or, or_true, true_and, and_true]); omega) | (simp <;> fail) | skip) [resV], rfl⟩
end Go.Proofs.Ytkbdlgohmafglaa.E
/- Sums over bytes: what is sealed, and opened. -/
namespace Go.Proofs.Ytkbdlgohmafglaa.E
open Go Go.RowKit Go.Proofs
set_option linter.unusedVariables false
set_option linter.unusedSimpArgs false
/-- The register's next number. -/
def nxt (t : List Nat) (c x : Nat) : Nat := t.getD ((c % 256) ^^^ x) 0 ^^^ (c / 256)
theorem mor_cons (t : List Nat) (c x : Nat) (b : List Nat) : mor t c (x :: b) = mor t (nxt t c x) b := rfl
theorem mor_drop {t b : List Nat} {c i : Nat} (h : i < b.length) : mor t c (b.drop i) = mor t (nxt t c b[i]) (b.drop (i + 1)) := by
  rw [List.drop_eq_getElem_cons h, mor_cons]
set_option maxRecDepth 4000 in
theorem more_ok {t : List Nat} (ht : t.length = 256) (ht2 : ∀ x ∈ t, x < 4294967296) {ot o : Bool} {s : Nat} {xs : List PV} {b : List Nat} (hx : xs = b.map u8) (hs : s = 1 ∨ b.length = 0) (hw : ∀ x ∈ b, x < 256) (hl : b.length ≤ 100000000000000) (c : Nat) (hc : c < 4294967296) :
    PSpec Try.prog 39 [.lst 1 (t.map u32) ot, .int .u32 c, .lst s xs o] (.tup [.int .u32 (mor t c b : Nat), .int .i64 0]) := by
  subst hx
  intro H
  refine spec_of t39 (by simp [p39]) ?_
  simp only [p39]
  first | refine pwp_sr ?_ | refine pwp_regionM ?_
  intro K hK
  simp (disch := first | (refine Ok.mk ?_; (try simp only [Lm, La, Lc, Ln, Lt, Ld, Lr, Li, true_or, or_true, true_and, and_true]); omega) | (simp <;> fail) | skip) [runM_nil]
  refine hK _ _ ?_
  clear hK K
  first | refine pwp_rif ?_ | refine pwp_rifE ?_
  intro K hK
  simp (disch := first | (refine Ok.mk ?_; (try simp only [Lm, La, Lc, Ln, Lt, Ld, Lr, Li, true_or, or_true, true_and, and_true]); omega) | (simp <;> fail) | skip) [runM_nil, ht]
  refine hK _ _ ?_
  clear hK K
  refine ifF (by simp (disch := first | (refine Ok.mk ?_; (try simp only [Lm, La, Lc, Ln, Lt, Ld, Lr, Li, true_or, or_true, true_and, and_true]); omega) | (simp <;> fail) | skip) [runM_nil]) (pwp_skip ?_)
  refine pwp_seq (pwp_seq ?_)
  first | refine pwp_sr ?_ | refine pwp_regionM ?_
  intro K hK
  simp (disch := first | (refine Ok.mk ?_; (try simp only [Lm, La, Lc, Ln, Lt, Ld, Lr, Li, true_or, or_true, true_and, and_true]); omega) | (simp <;> fail) | skip) [runM_nil]
  refine hK _ _ ?_
  clear hK K
  refine pwp_block ?_
  refine pwp_loopK [0, 1, 13, 14, 15] (fun m st H' => ∃ i d : Nat, i ≤ b.length ∧ m = b.length - i ∧ d < 4294967296 ∧ mor t d (b.drop i) = mor t c b ∧ H' = H ∧ st = MS 31 [(0, .lst 1 (t.map u32) ot), (1, .int .u32 d), (13, .lst s (b.map u8) false), (14, .int .i64 b.length), (15, .int .i64 i)]) (n := b.length)
    ⟨_, .refl _, 0, c, Nat.zero_le _, rfl, hc, rfl, rfl, by simp [keepL_MS, keepA, getS]⟩ ?_
  rintro m st H' ⟨i, d, hi, rfl, hd, hm, rfl, rfl⟩
  by_cases hlt : i < b.length
  · obtain rfl : s = 1 := by omega
    have hxb : b[i] < 256 := hw _ (List.getElem_mem hlt)
    have hgx : b[i]? = some b[i] := List.getElem?_eq_getElem hlt
    rw [mor_drop hlt] at hm
    generalize b[i] = x at *
    have hk : (d % 256) ^^^ x < 256 := xor_lt8 (by omega) hxb
    have hgt : t[(d % 256) ^^^ x]? = some (t.getD ((d % 256) ^^^ x) 0) := by rw [List.getD_eq_getElem?_getD, List.getElem?_eq_getElem (by omega)]; rfl
    have htl : t.getD ((d % 256) ^^^ x) 0 < 4294967296 := getD_lt ht2 (by omega)
    have hnx : nxt t d x = t.getD ((d % 256) ^^^ x) 0 ^^^ (d / 256) := rfl
    have e1 : ((d : Int) % 256).toNat = d % 256 := by omega
    have e2 : ((d : Int) / 256).toNat = d / 256 := by omega
    have hnl : nxt t d x < 4294967296 := nxt_lt ht2 d x hd
    generalize t.getD ((d % 256) ^^^ x) 0 = y at *
    first | refine pwp_sr ?_ | refine pwp_regionM ?_
    intro K hK
    simp (disch := first | (refine Ok.mk ?_; (try simp only [Lm, La, Lc, Ln, Lt, Ld, Lr, Li, true_or, or_true, true_and, and_true]); omega) | (simp <;> fail) | skip) [runM_nil]
    refine hK _ _ ?_
    clear hK K
    refine pwp_seq (pwp_cT (by simp) (pwp_skip ?_))
    refine pwp_seq (pwp_block ?_)
    first | refine pwp_sr ?_ | refine pwp_regionM ?_
    intro K hK
    simp (disch := first | (refine Ok.mk ?_; (try simp only [Lm, La, Lc, Ln, Lt, Ld, Lr, Li, true_or, or_true, true_and, and_true]); omega) | (simp <;> fail) | skip) [runM_nil, hgx]
    refine hK _ _ ?_
    clear hK K
    have hkt : (d % 256) ^^^ x < t.length := by omega
    first | refine pwp_sr ?_ | refine pwp_regionM ?_
    intro K hK
    simp (disch := first | (refine Ok.mk ?_; (try simp only [Lm, La, Lc, Ln, Lt, Ld, Lr, Li, true_or, or_true, true_and, and_true]); omega) | (simp <;> fail) | skip) [runM_nil, wm_u8, e1, e2, hgt, ht, hk]
    refine hK _ _ ?_
    clear hK K
    first | refine pwp_sr ?_ | refine pwp_regionM ?_
    intro K hK
    simp (disch := first | (refine Ok.mk ?_; (try simp only [Lm, La, Lc, Ln, Lt, Ld, Lr, Li, true_or, or_true, true_and, and_true]); omega) | (simp <;> fail) | skip) [runM_nil]
    refine hK _ _ ?_
    clear hK K
    exact ⟨b.length - (i + 1), by omega, _, .refl _, i + 1, nxt t d x, by omega, rfl, hnl, hm, rfl, by simp [keepL_MS, keepA, getS, hnx]⟩
  · obtain rfl : i = b.length := by omega
    rw [List.drop_length] at hm
    first | refine pwp_sr ?_ | refine pwp_regionM ?_
    intro K hK
    simp (disch := first | (refine Ok.mk ?_; (try simp only [Lm, La, Lc, Ln, Lt, Ld, Lr, Li, true_or, or_true, true_and, and_true]); omega) | (simp <;> fail) | skip) [runM_nil]
    refine hK _ _ ?_
    clear hK K
    refine pwp_seq (pwp_cF (by simp) (pwp_exit ?_))
    first | refine pwp_sr ?_ | refine pwp_regionM ?_
    intro K hK
    simp (disch := first | (refine Ok.mk ?_; (try simp only [Lm, La, Lc, Ln, Lt, Ld, Lr, Li, true_or, or_true, true_and, and_true]); omega) | (simp <;> fail) | skip) [runM_nil]
    refine hK _ _ ?_
    clear hK K
    rw [← hm]
    refine pwp_ret ⟨.inr rfl, _, _, (by simp (disch := first | (refine Ok.mk ?_; (try simp only [Lm, La, Lc, Ln, Lt, Ld, Lr, Li, true_or, or_true, true_and, and_true]); omega) | (simp <;> fail) | skip) [runM_nil, resL, mor]; rfl), .refl _, by simp (disch := first | (refine Ok.mk ?_; (try simp only [Lm, La, Lc, Ln, Lt, Ld, Lr, Li, true_or, or_true, true_and, and_true]); omega) | (simp <;> fail) | skip) [resV, mor], rfl⟩
end Go.Proofs.Ytkbdlgohmafglaa.E
/- Sums over bytes: sealed, and opened; the document's. -/
namespace Go.Proofs.Ytkbdlgohmafglaa.E
open Go Go.RowKit Go.Proofs
set_option linter.unusedVariables false
set_option linter.unusedSimpArgs false
theorem sum_ok {t : List Nat} (ht : t.length = 256) (ht2 : ∀ x ∈ t, x < 4294967296) {ot o : Bool} {s : Nat} {xs : List PV} {b : List Nat} (hx : xs = b.map u8) (hs : s = 1 ∨ b.length = 0) (hw : ∀ x ∈ b, x < 256) (hl : b.length ≤ 100000000000000) :
    PSpec Try.prog 33 [.lst 1 (t.map u32) ot, .lst s xs o] (.tup [.int .u32 (csum t b : Nat), .int .i64 0]) := by
  intro H
  have c := more_ok ht ht2 (ot := false) (o := false) hx hs hw hl 4294967295 (by omega)
  have hml := mor_lt ht2 b 4294967295 (by omega)
  have hcs : csum t b = mor t 4294967295 b ^^^ 4294967295 := rfl
  have hcc := Nat.xor_comm (mor t 4294967295 b) 4294967295
  generalize mor t 4294967295 b = m at *
  refine spec_of t33 (by simp [p33]) ?_
  simp only [p33]
  first | refine pwp_sr ?_ | refine pwp_regionM ?_
  intro K hK
  simp (disch := first | (refine Ok.mk ?_; (try simp only [Lm, La, Lc, Ln, Lt, Ld, Lr, Li, true_or, or_true, true_and, and_true]); omega) | (simp <;> fail) | skip) [runM_nil]
  refine hK _ _ ?_
  clear hK K
  first | refine pwp_sr ?_ | refine pwp_regionM ?_
  intro K hK
  simp (disch := first | (refine Ok.mk ?_; (try simp only [Lm, La, Lc, Ln, Lt, Ld, Lr, Li, true_or, or_true, true_and, and_true]); omega) | (simp <;> fail) | skip) [runM_nil]
  refine useP (c) ?_
  simp (disch := first | (refine Ok.mk ?_; (try simp only [Lm, La, Lc, Ln, Lt, Ld, Lr, Li, true_or, or_true, true_and, and_true]); omega) | (simp <;> fail) | skip) [runM_nil]
  refine hK _ _ ?_
  clear hK K
  first | refine pwp_rif ?_ | refine pwp_rifE ?_
  intro K hK
  simp (disch := first | (refine Ok.mk ?_; (try simp only [Lm, La, Lc, Ln, Lt, Ld, Lr, Li, true_or, or_true, true_and, and_true]); omega) | (simp <;> fail) | skip) [runM_nil]
  refine hK _ _ ?_
  clear hK K
  refine ifF (by simp (disch := first | (refine Ok.mk ?_; (try simp only [Lm, La, Lc, Ln, Lt, Ld, Lr, Li, true_or, or_true, true_and, and_true]); omega) | (simp <;> fail) | skip) [runM_nil]) (pwp_skip ?_)
  have hmax : IntKind.u32.max = 4294967295 := rfl
  first | refine pwp_sr ?_ | refine pwp_regionM ?_
  intro K hK
  simp (disch := first | (refine Ok.mk ?_; (try simp only [Lm, La, Lc, Ln, Lt, Ld, Lr, Li, true_or, or_true, true_and, and_true]); omega) | (simp <;> fail) | skip) [runM_nil, hmax, IntKind.signed]
  refine hK _ _ ?_
  clear hK K
  rw [hcs, hcc]
  refine pwp_ret ⟨.inr rfl, _, _, (by simp (disch := first | (refine Ok.mk ?_; (try simp only [Lm, La, Lc, Ln, Lt, Ld, Lr, Li, true_or, or_true, true_and, and_true]); omega) | (simp <;> fail) | skip) [runM_nil, resL]; rfl), .refl _, by simp (disch := first | (refine Ok.mk ?_; (try simp only [Lm, La, Lc, Ln, Lt, Ld, Lr, Li, true_or, or_true, true_and, and_true]); omega) | (simp <;> fail) | skip) [resV], rfl⟩
theorem tail_ok (c : Nat) (hc : c < 4294967296) : PSpec Try.prog 34 [.int .u32 c] (bV (four c) true) := by
  intro H
  refine spec_of t34 (by simp [p34]) ?_
  simp only [p34]
  first | refine pwp_sr ?_ | refine pwp_regionM ?_
  intro K hK
  simp (disch := first | (refine Ok.mk ?_; (try simp only [Lm, La, Lc, Ln, Lt, Ld, Lr, Li, true_or, or_true, true_and, and_true]); omega) | (simp <;> fail) | skip) [runM_nil]
  refine hK _ _ ?_
  clear hK K
  have e : ((c : Int) / 16777216) % 256 = (c : Int) / 16777216 := by omega
  first | refine pwp_sr ?_ | refine pwp_regionM ?_
  intro K hK
  simp (disch := first | (refine Ok.mk ?_; (try simp only [Lm, La, Lc, Ln, Lt, Ld, Lr, Li, true_or, or_true, true_and, and_true]); omega) | (simp <;> fail) | skip) [runM_nil, wm_u8]
  refine hK _ _ ?_
  clear hK K
  refine pwp_ret ⟨.inr rfl, _, _, (by simp (disch := first | (refine Ok.mk ?_; (try simp only [Lm, La, Lc, Ln, Lt, Ld, Lr, Li, true_or, or_true, true_and, and_true]); omega) | (simp <;> fail) | skip) [runM_nil, resL, four, e]; rfl), .refl _, by simp (disch := first | (refine Ok.mk ?_; (try simp only [Lm, La, Lc, Ln, Lt, Ld, Lr, Li, true_or, or_true, true_and, and_true]); omega) | (simp <;> fail) | skip) [resV, four, e], rfl⟩
theorem equal_ok {s1 s2 : Nat} {xs ys : List PV} {o1 o2 : Bool} {a b : List Nat} (hx : xs = a.map u8) (hy : ys = b.map u8) (hs1 : s1 = 1 ∨ a.length = 0) (hs2 : s2 = 1 ∨ b.length = 0) (ha : ∀ x ∈ a, x < 256) (hb : ∀ x ∈ b, x < 256) :
    PSpec Try.prog 40 [.lst s1 xs o1, .lst s2 ys o2] (.bool (decide (a = b))) := by
  intro H
  have c1 := cvS_u8 (o := false) hx hs1 ha
  have c2 := cvS_u8 (o := false) hy hs2 hb
  refine spec_of t40 (by simp [p40]) ?_
  simp only [p40]
  first | refine pwp_sr ?_ | refine pwp_regionM ?_
  intro K hK
  simp (disch := first | (refine Ok.mk ?_; (try simp only [Lm, La, Lc, Ln, Lt, Ld, Lr, Li, true_or, or_true, true_and, and_true]); omega) | (simp <;> fail) | skip) [runM_nil]
  refine hK _ _ ?_
  clear hK K
  first | refine pwp_sr ?_ | refine pwp_regionM ?_
  intro K hK
  simp (disch := first | (refine Ok.mk ?_; (try simp only [Lm, La, Lc, Ln, Lt, Ld, Lr, Li, true_or, or_true, true_and, and_true]); omega) | (simp <;> fail) | skip) [runM_nil, c1, c2]
  refine hK _ _ ?_
  clear hK K
  refine pwp_ret ⟨.inr rfl, _, _, (by simp (disch := first | (refine Ok.mk ?_; (try simp only [Lm, La, Lc, Ln, Lt, Ld, Lr, Li, true_or, or_true, true_and, and_true]); omega) | (simp <;> fail) | skip) [runM_nil, resL]; rfl), .refl _, by simp (disch := first | (refine Ok.mk ?_; (try simp only [Lm, La, Lc, Ln, Lt, Ld, Lr, Li, true_or, or_true, true_and, and_true]); omega) | (simp <;> fail) | skip) [resV], rfl⟩
theorem seal_ok {t : List Nat} (ht : t.length = 256) (ht2 : ∀ x ∈ t, x < 4294967296) {ot o : Bool} {s : Nat} {xs : List PV} {b : List Nat} (hx : xs = b.map u8) (hs : s = 1 ∨ b.length = 0) (hw : ∀ x ∈ b, x < 256) (hl : b.length ≤ 90000000000000) :
    PSpec Try.prog 25 [.lst 1 (t.map u32) ot, .lst s xs o] (.tup [bV (sealed t b) true, .int .i64 0]) := by
  subst hx
  intro H
  have c := sum_ok ht ht2 (ot := false) (o := false) (xs := b.map u8) rfl hs hw (by omega)
  have hml := csum_lt ht2 b
  have c2 := tail_ok (csum t b) hml
  have c3 := concat_ok (es := [.lst s (b.map u8) false, .lst 1 ((four (csum t b)).map u8) false]) (o := false) [(s, b), (1, four (csum t b))] rfl (by
    intro p hp
    rcases List.mem_cons.1 hp with rfl | hp
    · exact hs
    · rcases List.mem_cons.1 hp with rfl | hp
      · exact .inl rfl
      · cases hp) (by simp) (by simp [four_length]; omega)
  have e : List.flatMap (fun x : Nat × List Nat => x.2) [(s, b), (1, four (csum t b))] = sealed t b := by simp [sealed]
  rw [e] at c3
  generalize sealed t b = z at *
  generalize four (csum t b) = f4 at *
  generalize csum t b = m at *
  refine spec_of t25 (by simp [p25]) ?_
  simp only [p25]
  first | refine pwp_sr ?_ | refine pwp_regionM ?_
  intro K hK
  simp (disch := first | (refine Ok.mk ?_; (try simp only [Lm, La, Lc, Ln, Lt, Ld, Lr, Li, true_or, or_true, true_and, and_true]); omega) | (simp <;> fail) | skip) [runM_nil]
  refine hK _ _ ?_
  clear hK K
  first | refine pwp_sr ?_ | refine pwp_regionM ?_
  intro K hK
  simp (disch := first | (refine Ok.mk ?_; (try simp only [Lm, La, Lc, Ln, Lt, Ld, Lr, Li, true_or, or_true, true_and, and_true]); omega) | (simp <;> fail) | skip) [runM_nil]
  refine useP (c) ?_
  simp (disch := first | (refine Ok.mk ?_; (try simp only [Lm, La, Lc, Ln, Lt, Ld, Lr, Li, true_or, or_true, true_and, and_true]); omega) | (simp <;> fail) | skip) [runM_nil]
  refine hK _ _ ?_
  clear hK K
  first | refine pwp_rif ?_ | refine pwp_rifE ?_
  intro K hK
  simp (disch := first | (refine Ok.mk ?_; (try simp only [Lm, La, Lc, Ln, Lt, Ld, Lr, Li, true_or, or_true, true_and, and_true]); omega) | (simp <;> fail) | skip) [runM_nil]
  refine hK _ _ ?_
  clear hK K
  refine ifF (by simp (disch := first | (refine Ok.mk ?_; (try simp only [Lm, La, Lc, Ln, Lt, Ld, Lr, Li, true_or, or_true, true_and, and_true]); omega) | (simp <;> fail) | skip) [runM_nil]) (pwp_skip ?_)
  first | refine pwp_sr ?_ | refine pwp_regionM ?_
  intro K hK
  simp (disch := first | (refine Ok.mk ?_; (try simp only [Lm, La, Lc, Ln, Lt, Ld, Lr, Li, true_or, or_true, true_and, and_true]); omega) | (simp <;> fail) | skip) [runM_nil]
  refine useP (c2) ?_
  simp (disch := first | (refine Ok.mk ?_; (try simp only [Lm, La, Lc, Ln, Lt, Ld, Lr, Li, true_or, or_true, true_and, and_true]); omega) | (simp <;> fail) | skip) [runM_nil]
  refine useP (c3) ?_
  simp (disch := first | (refine Ok.mk ?_; (try simp only [Lm, La, Lc, Ln, Lt, Ld, Lr, Li, true_or, or_true, true_and, and_true]); omega) | (simp <;> fail) | skip) [runM_nil]
  refine hK _ _ ?_
  clear hK K
  refine pwp_ret ⟨.inr rfl, _, _, (by simp (disch := first | (refine Ok.mk ?_; (try simp only [Lm, La, Lc, Ln, Lt, Ld, Lr, Li, true_or, or_true, true_and, and_true]); omega) | (simp <;> fail) | skip) [runM_nil, resL]; rfl), .refl _, by simp (disch := first | (refine Ok.mk ?_; (try simp only [Lm, La, Lc, Ln, Lt, Ld, Lr, Li, true_or, or_true, true_and, and_true]); omega) | (simp <;> fail) | skip) [resV], rfl⟩
theorem opened_cases (t s : List Nat) : (s.length < 4 ∧ opened t s = ([], 2)) ∨ (4 ≤ s.length ∧ four (csum t (s.take (s.length - 4))) = s.drop (s.length - 4) ∧ opened t s = (s.take (s.length - 4), 0)) ∨
    (4 ≤ s.length ∧ ¬ four (csum t (s.take (s.length - 4))) = s.drop (s.length - 4) ∧ opened t s = ([], 4)) := by
  unfold opened
  by_cases h : s.length < 4
  · rw [if_pos h]; exact .inl ⟨h, rfl⟩
  · rw [if_neg h]
    by_cases h2 : four (csum t (s.take (s.length - 4))) = s.drop (s.length - 4)
    · rw [if_pos h2]; exact .inr (.inl ⟨by omega, h2, rfl⟩)
    · rw [if_neg h2]; exact .inr (.inr ⟨by omega, h2, rfl⟩)
set_option maxRecDepth 4000 in
theorem open_ok {t : List Nat} (ht : t.length = 256) (ht2 : ∀ x ∈ t, x < 4294967296) {ot o : Bool} {s : Nat} {xs : List PV} {b : List Nat} (hx : xs = b.map u8) (hs : s = 1 ∨ b.length = 0) (hw : ∀ x ∈ b, x < 256) (hl : b.length ≤ 100000000000000) :
    PSpec Try.prog 35 [.lst 1 (t.map u32) ot, .lst s xs o] (.tup [bV (opened t b).1 true, .int .i64 ((opened t b).2 : Nat)]) := by
  subst hx
  intro H
  have hoc := opened_cases t b
  refine spec_ofU t35 (by simp [p35]) ?_
  simp only [p35]
  first | refine pwp_sr ?_ | refine pwp_regionM ?_
  intro K hK
  simp (disch := first | (refine Ok.mk ?_; (try simp only [Lm, La, Lc, Ln, Lt, Ld, Lr, Li, true_or, or_true, true_and, and_true]); omega) | (simp <;> fail) | skip) [runM_nil]
  refine hK _ _ ?_
  clear hK K
  first | refine pwp_sr ?_ | refine pwp_regionM ?_
  intro K hK
  simp (disch := first | (refine Ok.mk ?_; (try simp only [Lm, La, Lc, Ln, Lt, Ld, Lr, Li, true_or, or_true, true_and, and_true]); omega) | (simp <;> fail) | skip) [runM_nil]
  refine hK _ _ ?_
  clear hK K
  refine pwp_seq (pwp_block ?_)
  first | refine pwp_sr ?_ | refine pwp_regionM ?_
  intro K hK
  simp (disch := first | (refine Ok.mk ?_; (try simp only [Lm, La, Lc, Ln, Lt, Ld, Lr, Li, true_or, or_true, true_and, and_true]); omega) | (simp <;> fail) | skip) [runM_nil, ht]
  refine hK _ _ ?_
  clear hK K
  refine pwp_cF (by simp) ?_
  rcases hoc with ⟨h4, e⟩ | ⟨h4, h5, e⟩ | ⟨h4, h5, e⟩
  · first | refine pwp_sr ?_ | refine pwp_regionM ?_
    intro K hK
    simp (disch := first | (refine Ok.mk ?_; (try simp only [Lm, La, Lc, Ln, Lt, Ld, Lr, Li, true_or, or_true, true_and, and_true]); omega) | (simp <;> fail) | skip) [runM_nil]
    refine hK _ _ ?_
    clear hK K
    refine pwp_cT (by simp) ?_
    first | refine pwp_sr ?_ | refine pwp_regionM ?_
    intro K hK
    simp (disch := first | (refine Ok.mk ?_; (try simp only [Lm, La, Lc, Ln, Lt, Ld, Lr, Li, true_or, or_true, true_and, and_true]); omega) | (simp <;> fail) | skip) [runM_nil]
    refine hK _ _ ?_
    clear hK K
    rw [e]
    refine pwp_ret ⟨.inr rfl, _, _, _, (by simp (disch := first | (refine Ok.mk ?_; (try simp only [Lm, La, Lc, Ln, Lt, Ld, Lr, Li, true_or, or_true, true_and, and_true]); omega) | (simp <;> fail) | skip) [runM_nil, resL]; rfl), .refl _, (by simp (disch := first | (refine Ok.mk ?_; (try simp only [Lm, La, Lc, Ln, Lt, Ld, Lr, Li, true_or, or_true, true_and, and_true]); omega) | (simp <;> fail) | skip) [resV]), rfl, rfl⟩
  · rw [e]
    first | refine pwp_sr ?_ | refine pwp_regionM ?_
    intro K hK
    simp (disch := first | (refine Ok.mk ?_; (try simp only [Lm, La, Lc, Ln, Lt, Ld, Lr, Li, true_or, or_true, true_and, and_true]); omega) | (simp <;> fail) | skip) [runM_nil]
    refine hK _ _ ?_
    clear hK K
    refine pwp_cF (by simp) (pwp_skip ?_)
    have hml := csum_lt ht2 (b.take (b.length - 4))
    have e1 : ((b.length : Int) - 4).toNat = b.length - 4 := by omega
    have hsT : s = 1 := by omega
    subst hsT
    first | refine pwp_sr ?_ | refine pwp_regionM ?_
    intro K hK
    simp (disch := first | (refine Ok.mk ?_; (try simp only [Lm, La, Lc, Ln, Lt, Ld, Lr, Li, true_or, or_true, true_and, and_true]); omega) | (simp <;> fail) | skip) [runM_nil, e1]
    refine useP (sum_ok ht ht2 (b := b.take (b.length - 4)) (by simp) (.inl rfl) (fun x hx => hw x (List.mem_of_mem_take hx)) (by rw [Lt]; omega)) ?_
    simp (disch := first | (refine Ok.mk ?_; (try simp only [Lm, La, Lc, Ln, Lt, Ld, Lr, Li, true_or, or_true, true_and, and_true]); omega) | (simp <;> fail) | skip) [runM_nil, e1]
    refine hK _ _ ?_
    clear hK K
    first | refine pwp_dif hmix ?_ | refine pwp_difE hmix ?_
    intro K hK
    simp (disch := first | (refine Ok.mk ?_; (try simp only [Lm, La, Lc, Ln, Lt, Ld, Lr, Li, true_or, or_true, true_and, and_true]); omega) | (simp <;> fail) | skip) [runM_nil, e1]
    refine useD (tail_ok _ hml) ?_
    simp (disch := first | (refine Ok.mk ?_; (try simp only [Lm, La, Lc, Ln, Lt, Ld, Lr, Li, true_or, or_true, true_and, and_true]); omega) | (simp <;> fail) | skip) [runM_nil, e1]
    refine useD (equal_ok (a := four (csum t (b.take (b.length - 4)))) (b := b.drop (b.length - 4)) rfl (by simp) (.inl rfl) (.inl rfl) (four_lt _) (fun x hx => hw x (List.mem_of_mem_drop hx))) ?_
    simp (disch := first | (refine Ok.mk ?_; (try simp only [Lm, La, Lc, Ln, Lt, Ld, Lr, Li, true_or, or_true, true_and, and_true]); omega) | (simp <;> fail) | skip) [runM_nil, e1]
    refine hK _ _ ?_
    clear hK K
    refine ifF (by simp (disch := first | (refine Ok.mk ?_; (try simp only [Lm, La, Lc, Ln, Lt, Ld, Lr, Li, true_or, or_true, true_and, and_true]); omega) | (simp <;> fail) | skip) [runM_nil, h5]) (pwp_skip ?_)
    first | refine pwp_sr ?_ | refine pwp_regionM ?_
    intro K hK
    simp (disch := first | (refine Ok.mk ?_; (try simp only [Lm, La, Lc, Ln, Lt, Ld, Lr, Li, true_or, or_true, true_and, and_true]); omega) | (simp <;> fail) | skip) [runM_nil, e1]
    refine useP (clone_ok (l := b.take (b.length - 4)) (by simp) (.inl rfl) (by rw [Lt]; omega)) ?_
    simp (disch := first | (refine Ok.mk ?_; (try simp only [Lm, La, Lc, Ln, Lt, Ld, Lr, Li, true_or, or_true, true_and, and_true]); omega) | (simp <;> fail) | skip) [runM_nil, e1]
    refine hK _ _ ?_
    clear hK K
    refine pwp_ret ⟨.inr rfl, _, _, _, (by simp (disch := first | (refine Ok.mk ?_; (try simp only [Lm, La, Lc, Ln, Lt, Ld, Lr, Li, true_or, or_true, true_and, and_true]); omega) | (simp <;> fail) | skip) [runM_nil, resL]; rfl), .refl _, (by simp (disch := first | (refine Ok.mk ?_; (try simp only [Lm, La, Lc, Ln, Lt, Ld, Lr, Li, true_or, or_true, true_and, and_true]); omega) | (simp <;> fail) | skip) [resV]), rfl, rfl⟩
  · rw [e]
    first | refine pwp_sr ?_ | refine pwp_regionM ?_
    intro K hK
    simp (disch := first | (refine Ok.mk ?_; (try simp only [Lm, La, Lc, Ln, Lt, Ld, Lr, Li, true_or, or_true, true_and, and_true]); omega) | (simp <;> fail) | skip) [runM_nil]
    refine hK _ _ ?_
    clear hK K
    refine pwp_cF (by simp) (pwp_skip ?_)
    have hml := csum_lt ht2 (b.take (b.length - 4))
    have e1 : ((b.length : Int) - 4).toNat = b.length - 4 := by omega
    have hsT : s = 1 := by omega
    subst hsT
    first | refine pwp_sr ?_ | refine pwp_regionM ?_
    intro K hK
    simp (disch := first | (refine Ok.mk ?_; (try simp only [Lm, La, Lc, Ln, Lt, Ld, Lr, Li, true_or, or_true, true_and, and_true]); omega) | (simp <;> fail) | skip) [runM_nil, e1]
    refine useP (sum_ok ht ht2 (b := b.take (b.length - 4)) (by simp) (.inl rfl) (fun x hx => hw x (List.mem_of_mem_take hx)) (by rw [Lt]; omega)) ?_
    simp (disch := first | (refine Ok.mk ?_; (try simp only [Lm, La, Lc, Ln, Lt, Ld, Lr, Li, true_or, or_true, true_and, and_true]); omega) | (simp <;> fail) | skip) [runM_nil, e1]
    refine hK _ _ ?_
    clear hK K
    first | refine pwp_dif hmix ?_ | refine pwp_difE hmix ?_
    intro K hK
    simp (disch := first | (refine Ok.mk ?_; (try simp only [Lm, La, Lc, Ln, Lt, Ld, Lr, Li, true_or, or_true, true_and, and_true]); omega) | (simp <;> fail) | skip) [runM_nil, e1]
    refine useD (tail_ok _ hml) ?_
    simp (disch := first | (refine Ok.mk ?_; (try simp only [Lm, La, Lc, Ln, Lt, Ld, Lr, Li, true_or, or_true, true_and, and_true]); omega) | (simp <;> fail) | skip) [runM_nil, e1]
    refine useD (equal_ok (a := four (csum t (b.take (b.length - 4)))) (b := b.drop (b.length - 4)) rfl (by simp) (.inl rfl) (.inl rfl) (four_lt _) (fun x hx => hw x (List.mem_of_mem_drop hx))) ?_
    simp (disch := first | (refine Ok.mk ?_; (try simp only [Lm, La, Lc, Ln, Lt, Ld, Lr, Li, true_or, or_true, true_and, and_true]); omega) | (simp <;> fail) | skip) [runM_nil, e1]
    refine hK _ _ ?_
    clear hK K
    refine ifT (by simp (disch := first | (refine Ok.mk ?_; (try simp only [Lm, La, Lc, Ln, Lt, Ld, Lr, Li, true_or, or_true, true_and, and_true]); omega) | (simp <;> fail) | skip) [runM_nil, h5]) ?_
    first | refine pwp_sr ?_ | refine pwp_regionM ?_
    intro K hK
    simp (disch := first | (refine Ok.mk ?_; (try simp only [Lm, La, Lc, Ln, Lt, Ld, Lr, Li, true_or, or_true, true_and, and_true]); omega) | (simp <;> fail) | skip) [runM_nil]
    refine hK _ _ ?_
    clear hK K
    refine pwp_ret ⟨.inr rfl, _, _, _, (by simp (disch := first | (refine Ok.mk ?_; (try simp only [Lm, La, Lc, Ln, Lt, Ld, Lr, Li, true_or, or_true, true_and, and_true]); omega) | (simp <;> fail) | skip) [runM_nil, resL]; rfl), .refl _, (by simp (disch := first | (refine Ok.mk ?_; (try simp only [Lm, La, Lc, Ln, Lt, Ld, Lr, Li, true_or, or_true, true_and, and_true]); omega) | (simp <;> fail) | skip) [resV]), rfl, rfl⟩
end Go.Proofs.Ytkbdlgohmafglaa.E
/- Sums over bytes: the document's. -/
namespace Go.Proofs.Ytkbdlgohmafglaa.E
open Go Go.RowKit Go.Proofs
set_option linter.unusedVariables false
set_option linter.unusedSimpArgs false
theorem entry_ok (i : Nat) (hi : i < 4294967296) : PSpec Try.prog 42 [.int .i64 i] (.int .u32 (ent i : Nat)) := by
  intro H
  refine spec_of t42 (by simp [p42]) ?_
  simp only [p42]
  first | refine pwp_sr ?_ | refine pwp_regionM ?_
  intro K hK
  simp (disch := first | (refine Ok.mk ?_; (try simp only [Lm, La, Lc, Ln, Lt, Ld, Lr, Li, true_or, or_true, true_and, and_true]); omega) | (simp <;> fail) | skip) [runM_nil]
  refine hK _ _ ?_
  clear hK K
  first | refine pwp_sr ?_ | refine pwp_regionM ?_
  intro K hK
  simp (disch := first | (refine Ok.mk ?_; (try simp only [Lm, La, Lc, Ln, Lt, Ld, Lr, Li, true_or, or_true, true_and, and_true]); omega) | (simp <;> fail) | skip) [runM_nil]
  refine hK _ _ ?_
  clear hK K
  refine pwp_seq ?_
  first | refine pwp_sr ?_ | refine pwp_regionM ?_
  intro K hK
  simp (disch := first | (refine Ok.mk ?_; (try simp only [Lm, La, Lc, Ln, Lt, Ld, Lr, Li, true_or, or_true, true_and, and_true]); omega) | (simp <;> fail) | skip) [runM_nil]
  refine hK _ _ ?_
  clear hK K
  refine pwp_block ?_
  refine pwp_loopK [3, 4] (fun m st H' => ∃ j : Nat, j ≤ 8 ∧ m = 8 - j ∧ H' = H ∧ st = MS 21 [(3, .int .u32 (stps j i : Nat)), (4, .int .i64 j)]) (n := 8)
    ⟨_, .refl _, 0, by omega, rfl, rfl, by simp [keepL_MS, keepA, getS, stps]⟩ ?_
  rintro m st H' ⟨j, hj, rfl, rfl, rfl⟩
  have hsl := stps_lt hi j
  have hst : stps (j + 1) i = stp (stps j i) := rfl
  by_cases hj8 : j < 8
  · generalize stps j i = c at *
    have e : ((c : Int) / 2).toNat = c / 2 := by omega
    have hx : c / 2 ^^^ 3988292384 < 4294967296 := xor_lt32 (by omega) (by omega)
    first | refine pwp_rif ?_ | refine pwp_rifE ?_
    intro K hK
    simp (disch := first | (refine Ok.mk ?_; (try simp only [Lm, La, Lc, Ln, Lt, Ld, Lr, Li, true_or, or_true, true_and, and_true]); omega) | (simp <;> fail) | skip) [runM_nil]
    refine hK _ _ ?_
    clear hK K
    refine ifT (by simp (disch := first | (refine Ok.mk ?_; (try simp only [Lm, La, Lc, Ln, Lt, Ld, Lr, Li, true_or, or_true, true_and, and_true]); omega) | (simp <;> fail) | skip) [runM_nil]) (pwp_skip ?_)
    refine pwp_seq (pwp_block ?_)
    by_cases hc : c % 2 = 1
    · have hc' : (c : Int) % 2 = 1 := by omega
      first | refine pwp_sr ?_ | refine pwp_regionM ?_
      intro K hK
      simp (disch := first | (refine Ok.mk ?_; (try simp only [Lm, La, Lc, Ln, Lt, Ld, Lr, Li, true_or, or_true, true_and, and_true]); omega) | (simp <;> fail) | skip) [runM_nil]
      refine hK _ _ ?_
      clear hK K
      first | refine pwp_sr ?_ | refine pwp_regionM ?_
      intro K hK
      simp (disch := first | (refine Ok.mk ?_; (try simp only [Lm, La, Lc, Ln, Lt, Ld, Lr, Li, true_or, or_true, true_and, and_true]); omega) | (simp <;> fail) | skip) [runM_nil]
      refine hK _ _ ?_
      clear hK K
      first | refine pwp_rif ?_ | refine pwp_rifE ?_
      intro K hK
      simp (disch := first | (refine Ok.mk ?_; (try simp only [Lm, La, Lc, Ln, Lt, Ld, Lr, Li, true_or, or_true, true_and, and_true]); omega) | (simp <;> fail) | skip) [runM_nil]
      refine hK _ _ ?_
      clear hK K
      refine ifT (by simp (disch := first | (refine Ok.mk ?_; (try simp only [Lm, La, Lc, Ln, Lt, Ld, Lr, Li, true_or, or_true, true_and, and_true]); omega) | (simp <;> fail) | skip) [runM_nil]) ?_
      first | refine pwp_sr ?_ | refine pwp_regionM ?_
      intro K hK
      simp (disch := first | (refine Ok.mk ?_; (try simp only [Lm, La, Lc, Ln, Lt, Ld, Lr, Li, true_or, or_true, true_and, and_true]); omega) | (simp <;> fail) | skip) [runM_nil, e]
      refine hK _ _ ?_
      clear hK K
      first | refine pwp_sr ?_ | refine pwp_regionM ?_
      intro K hK
      simp (disch := first | (refine Ok.mk ?_; (try simp only [Lm, La, Lc, Ln, Lt, Ld, Lr, Li, true_or, or_true, true_and, and_true]); omega) | (simp <;> fail) | skip) [runM_nil]
      refine hK _ _ ?_
      clear hK K
      exact ⟨8 - (j + 1), by omega, _, .refl _, j + 1, by omega, rfl, rfl, by simp [keepL_MS, keepA, getS, hst, stp, hc]⟩
    · have hc' : ¬ (c : Int) % 2 = 1 := by omega
      first | refine pwp_sr ?_ | refine pwp_regionM ?_
      intro K hK
      simp (disch := first | (refine Ok.mk ?_; (try simp only [Lm, La, Lc, Ln, Lt, Ld, Lr, Li, true_or, or_true, true_and, and_true]); omega) | (simp <;> fail) | skip) [runM_nil]
      refine hK _ _ ?_
      clear hK K
      first | refine pwp_sr ?_ | refine pwp_regionM ?_
      intro K hK
      simp (disch := first | (refine Ok.mk ?_; (try simp only [Lm, La, Lc, Ln, Lt, Ld, Lr, Li, true_or, or_true, true_and, and_true]); omega) | (simp <;> fail) | skip) [runM_nil]
      refine hK _ _ ?_
      clear hK K
      first | refine pwp_rif ?_ | refine pwp_rifE ?_
      intro K hK
      simp (disch := first | (refine Ok.mk ?_; (try simp only [Lm, La, Lc, Ln, Lt, Ld, Lr, Li, true_or, or_true, true_and, and_true]); omega) | (simp <;> fail) | skip) [runM_nil]
      refine hK _ _ ?_
      clear hK K
      refine ifF (by simp (disch := first | (refine Ok.mk ?_; (try simp only [Lm, La, Lc, Ln, Lt, Ld, Lr, Li, true_or, or_true, true_and, and_true]); omega) | (simp <;> fail) | skip) [runM_nil]) (pwp_skip ?_)
      first | refine pwp_sr ?_ | refine pwp_regionM ?_
      intro K hK
      simp (disch := first | (refine Ok.mk ?_; (try simp only [Lm, La, Lc, Ln, Lt, Ld, Lr, Li, true_or, or_true, true_and, and_true]); omega) | (simp <;> fail) | skip) [runM_nil]
      refine hK _ _ ?_
      clear hK K
      exact ⟨8 - (j + 1), by omega, _, .refl _, j + 1, by omega, rfl, rfl, by simp [keepL_MS, keepA, getS, hst, stp, hc]⟩
  · obtain rfl : j = 8 := by omega
    have he : stps 8 i = ent i := rfl
    first | refine pwp_rif ?_ | refine pwp_rifE ?_
    intro K hK
    simp (disch := first | (refine Ok.mk ?_; (try simp only [Lm, La, Lc, Ln, Lt, Ld, Lr, Li, true_or, or_true, true_and, and_true]); omega) | (simp <;> fail) | skip) [runM_nil]
    refine hK _ _ ?_
    clear hK K
    refine ifF (by simp (disch := first | (refine Ok.mk ?_; (try simp only [Lm, La, Lc, Ln, Lt, Ld, Lr, Li, true_or, or_true, true_and, and_true]); omega) | (simp <;> fail) | skip) [runM_nil]) ?_
    refine pwp_exit ?_
    first | refine pwp_sr ?_ | refine pwp_regionM ?_
    intro K hK
    simp (disch := first | (refine Ok.mk ?_; (try simp only [Lm, La, Lc, Ln, Lt, Ld, Lr, Li, true_or, or_true, true_and, and_true]); omega) | (simp <;> fail) | skip) [runM_nil]
    refine hK _ _ ?_
    clear hK K
    rw [he]
    refine pwp_ret ⟨.inr rfl, _, _, (by simp (disch := first | (refine Ok.mk ?_; (try simp only [Lm, La, Lc, Ln, Lt, Ld, Lr, Li, true_or, or_true, true_and, and_true]); omega) | (simp <;> fail) | skip) [runM_nil, resL]; rfl), .refl _, by simp (disch := first | (refine Ok.mk ?_; (try simp only [Lm, La, Lc, Ln, Lt, Ld, Lr, Li, true_or, or_true, true_and, and_true]); omega) | (simp <;> fail) | skip) [resV], rfl⟩
set_option maxRecDepth 4000 in
theorem plainSum_ok {o : Bool} {s : Nat} {xs : List PV} {b : List Nat} (hx : xs = b.map u8) (hs : s = 1 ∨ b.length = 0) (hw : ∀ x ∈ b, x < 256) (hl : b.length ≤ 100000000000000) :
    PSpec Try.prog 38 [.lst s xs o] (.int .u32 (csum tbl b : Nat)) := by
  subst hx
  intro H
  refine spec_of t38 (by simp [p38]) ?_
  simp only [p38]
  first | refine pwp_sr ?_ | refine pwp_regionM ?_
  intro K hK
  simp (disch := first | (refine Ok.mk ?_; (try simp only [Lm, La, Lc, Ln, Lt, Ld, Lr, Li, true_or, or_true, true_and, and_true]); omega) | (simp <;> fail) | skip) [runM_nil]
  refine hK _ _ ?_
  clear hK K
  first | refine pwp_sr ?_ | refine pwp_regionM ?_
  intro K hK
  simp (disch := first | (refine Ok.mk ?_; (try simp only [Lm, La, Lc, Ln, Lt, Ld, Lr, Li, true_or, or_true, true_and, and_true]); omega) | (simp <;> fail) | skip) [runM_nil]
  refine hK _ _ ?_
  clear hK K
  refine pwp_seq ?_
  first | refine pwp_sr ?_ | refine pwp_regionM ?_
  intro K hK
  simp (disch := first | (refine Ok.mk ?_; (try simp only [Lm, La, Lc, Ln, Lt, Ld, Lr, Li, true_or, or_true, true_and, and_true]); omega) | (simp <;> fail) | skip) [runM_nil]
  refine hK _ _ ?_
  clear hK K
  refine pwp_block ?_
  refine pwp_loopK [0, 3, 4] (fun m st H' => ∃ i d : Nat, i ≤ b.length ∧ m = b.length - i ∧ d < 4294967296 ∧ mor tbl d (b.drop i) = mor tbl 4294967295 b ∧ H' = H ∧ st = MS 26 [(0, .lst s (b.map u8) o), (3, .int .u32 d), (4, .int .i64 i)]) (n := b.length)
    ⟨_, .refl _, 0, 4294967295, Nat.zero_le _, rfl, by omega, rfl, rfl, by simp [keepL_MS, keepA, getS]⟩ ?_
  rintro m st H' ⟨i, d, hi, rfl, hd, hm, rfl, rfl⟩
  by_cases hlt : i < b.length
  · obtain rfl : s = 1 := by omega
    have hxb : b[i] < 256 := hw _ (List.getElem_mem hlt)
    have hgx : b[i]? = some b[i] := List.getElem?_eq_getElem hlt
    rw [mor_drop hlt] at hm
    generalize b[i] = x at *
    have hk : (d % 256) ^^^ x < 256 := xor_lt8 (by omega) hxb
    have hdx : d ^^^ x < 4294967296 := xor_lt32 hd (by omega)
    have hxm : (d ^^^ x) % 256 = (d % 256) ^^^ x := xor_mod256 hxb
    have hxm' : ((d ^^^ x : Nat) : Int) % 256 = ((d % 256) ^^^ x : Nat) := by omega
    have hta : tbl.getD ((d % 256) ^^^ x) 0 = ent ((d % 256) ^^^ x) := tbl_at hk
    have htl : tbl.getD ((d % 256) ^^^ x) 0 < 4294967296 := getD_lt tbl_lt (by omega)
    have hnx : nxt tbl d x = tbl.getD ((d % 256) ^^^ x) 0 ^^^ (d / 256) := rfl
    have hnl : nxt tbl d x < 4294967296 := nxt_lt tbl_lt d x hd
    rw [hta] at htl hnx
    have ce := entry_ok ((d % 256) ^^^ x) (by omega)
    have e2 : ((d : Int) / 256).toNat = d / 256 := by omega
    generalize ent ((d % 256) ^^^ x) = y at *
    first | refine pwp_rif ?_ | refine pwp_rifE ?_
    intro K hK
    simp (disch := first | (refine Ok.mk ?_; (try simp only [Lm, La, Lc, Ln, Lt, Ld, Lr, Li, true_or, or_true, true_and, and_true]); omega) | (simp <;> fail) | skip) [runM_nil]
    refine hK _ _ ?_
    clear hK K
    refine ifT (by simp (disch := first | (refine Ok.mk ?_; (try simp only [Lm, La, Lc, Ln, Lt, Ld, Lr, Li, true_or, or_true, true_and, and_true]); omega) | (simp <;> fail) | skip) [runM_nil]) (pwp_skip ?_)
    refine pwp_seq (pwp_block ?_)
    first | refine pwp_sr ?_ | refine pwp_regionM ?_
    intro K hK
    simp (disch := first | (refine Ok.mk ?_; (try simp only [Lm, La, Lc, Ln, Lt, Ld, Lr, Li, true_or, or_true, true_and, and_true]); omega) | (simp <;> fail) | skip) [runM_nil, hgx, hxm', e2]
    refine useP (ce) ?_
    simp (disch := first | (refine Ok.mk ?_; (try simp only [Lm, La, Lc, Ln, Lt, Ld, Lr, Li, true_or, or_true, true_and, and_true]); omega) | (simp <;> fail) | skip) [runM_nil, hgx, hxm', e2]
    refine hK _ _ ?_
    clear hK K
    first | refine pwp_sr ?_ | refine pwp_regionM ?_
    intro K hK
    simp (disch := first | (refine Ok.mk ?_; (try simp only [Lm, La, Lc, Ln, Lt, Ld, Lr, Li, true_or, or_true, true_and, and_true]); omega) | (simp <;> fail) | skip) [runM_nil]
    refine hK _ _ ?_
    clear hK K
    exact ⟨b.length - (i + 1), by omega, _, .refl _, i + 1, nxt tbl d x, by omega, rfl, hnl, hm, rfl, by simp [keepL_MS, keepA, getS, hnx]⟩
  · obtain rfl : i = b.length := by omega
    rw [List.drop_length] at hm
    first | refine pwp_rif ?_ | refine pwp_rifE ?_
    intro K hK
    simp (disch := first | (refine Ok.mk ?_; (try simp only [Lm, La, Lc, Ln, Lt, Ld, Lr, Li, true_or, or_true, true_and, and_true]); omega) | (simp <;> fail) | skip) [runM_nil]
    refine hK _ _ ?_
    clear hK K
    refine ifF (by simp (disch := first | (refine Ok.mk ?_; (try simp only [Lm, La, Lc, Ln, Lt, Ld, Lr, Li, true_or, or_true, true_and, and_true]); omega) | (simp <;> fail) | skip) [runM_nil]) ?_
    refine pwp_exit ?_
    first | refine pwp_sr ?_ | refine pwp_regionM ?_
    intro K hK
    simp (disch := first | (refine Ok.mk ?_; (try simp only [Lm, La, Lc, Ln, Lt, Ld, Lr, Li, true_or, or_true, true_and, and_true]); omega) | (simp <;> fail) | skip) [runM_nil]
    refine hK _ _ ?_
    clear hK K
    have hcs : csum tbl b = d ^^^ 4294967295 := by rw [csum, ← hm]; rfl
    rw [hcs]
    refine pwp_ret ⟨.inr rfl, _, _, (by simp (disch := first | (refine Ok.mk ?_; (try simp only [Lm, La, Lc, Ln, Lt, Ld, Lr, Li, true_or, or_true, true_and, and_true]); omega) | (simp <;> fail) | skip) [runM_nil, resL]; rfl), .refl _, by simp (disch := first | (refine Ok.mk ?_; (try simp only [Lm, La, Lc, Ln, Lt, Ld, Lr, Li, true_or, or_true, true_and, and_true]); omega) | (simp <;> fail) | skip) [resV], rfl⟩
theorem four_ok (c : Nat) (hc : c < 4294967296) : PSpec Try.prog 37 [.int .u32 c] (bV (four c) true) := by
  intro H
  refine spec_of t37 (by simp [p37]) ?_
  simp only [p37]
  first | refine pwp_sr ?_ | refine pwp_regionM ?_
  intro K hK
  simp (disch := first | (refine Ok.mk ?_; (try simp only [Lm, La, Lc, Ln, Lt, Ld, Lr, Li, true_or, or_true, true_and, and_true]); omega) | (simp <;> fail) | skip) [runM_nil]
  refine hK _ _ ?_
  clear hK K
  have e : ((c : Int) / 16777216) % 256 = (c : Int) / 16777216 := by omega
  first | refine pwp_sr ?_ | refine pwp_regionM ?_
  intro K hK
  simp (disch := first | (refine Ok.mk ?_; (try simp only [Lm, La, Lc, Ln, Lt, Ld, Lr, Li, true_or, or_true, true_and, and_true]); omega) | (simp <;> fail) | skip) [runM_nil, wm_u8]
  refine hK _ _ ?_
  clear hK K
  refine pwp_ret ⟨.inr rfl, _, _, (by simp (disch := first | (refine Ok.mk ?_; (try simp only [Lm, La, Lc, Ln, Lt, Ld, Lr, Li, true_or, or_true, true_and, and_true]); omega) | (simp <;> fail) | skip) [runM_nil, resL, four, e]; rfl), .refl _, by simp (disch := first | (refine Ok.mk ?_; (try simp only [Lm, La, Lc, Ln, Lt, Ld, Lr, Li, true_or, or_true, true_and, and_true]); omega) | (simp <;> fail) | skip) [resV, four, e], rfl⟩
theorem sealed_ok {o : Bool} {s : Nat} {xs : List PV} {b : List Nat} (hx : xs = b.map u8) (hs : s = 1 ∨ b.length = 0) (hw : ∀ x ∈ b, x < 256) (hl : b.length ≤ 90000000000000) :
    PSpec Try.prog 29 [.lst s xs o] (bV (sealed tbl b) true) := by
  subst hx
  intro H
  have hml := csum_lt tbl_lt b
  refine spec_of t29 (by simp [p29]) ?_
  simp only [p29]
  first | refine pwp_sr ?_ | refine pwp_regionM ?_
  intro K hK
  simp (disch := first | (refine Ok.mk ?_; (try simp only [Lm, La, Lc, Ln, Lt, Ld, Lr, Li, true_or, or_true, true_and, and_true]); omega) | (simp <;> fail) | skip) [runM_nil]
  refine hK _ _ ?_
  clear hK K
  first | refine pwp_sr ?_ | refine pwp_regionM ?_
  intro K hK
  simp (disch := first | (refine Ok.mk ?_; (try simp only [Lm, La, Lc, Ln, Lt, Ld, Lr, Li, true_or, or_true, true_and, and_true]); omega) | (simp <;> fail) | skip) [runM_nil]
  refine hK _ _ ?_
  clear hK K
  have h4 := four_length (csum tbl b)
  first | refine pwp_sr ?_ | refine pwp_regionM ?_
  intro K hK
  simp (disch := first | (refine Ok.mk ?_; (try simp only [Lm, La, Lc, Ln, Lt, Ld, Lr, Li, true_or, or_true, true_and, and_true]); omega) | (simp <;> fail) | skip) [runM_nil]
  refine useP (plainSum_ok (o := false) rfl hs hw (by omega)) ?_
  simp (disch := first | (refine Ok.mk ?_; (try simp only [Lm, La, Lc, Ln, Lt, Ld, Lr, Li, true_or, or_true, true_and, and_true]); omega) | (simp <;> fail) | skip) [runM_nil]
  refine useP (four_ok _ hml) ?_
  simp (disch := first | (refine Ok.mk ?_; (try simp only [Lm, La, Lc, Ln, Lt, Ld, Lr, Li, true_or, or_true, true_and, and_true]); omega) | (simp <;> fail) | skip) [runM_nil]
  refine hK _ _ ?_
  clear hK K
  refine pwp_ret ⟨.inr rfl, _, _, (by simp (disch := first | (refine Ok.mk ?_; (try simp only [Lm, La, Lc, Ln, Lt, Ld, Lr, Li, true_or, or_true, true_and, and_true]); omega) | (simp <;> fail) | skip) [runM_nil, resL, sealed]; rfl), .refl _, by simp (disch := first | (refine Ok.mk ?_; (try simp only [Lm, La, Lc, Ln, Lt, Ld, Lr, Li, true_or, or_true, true_and, and_true]); omega) | (simp <;> fail) | skip) [resV, sealed], rfl⟩
set_option maxRecDepth 4000 in
theorem rOpened_ok {o : Bool} {s : Nat} {xs : List PV} {b : List Nat} (hx : xs = b.map u8) (hs : s = 1 ∨ b.length = 0) (hw : ∀ x ∈ b, x < 256) (hl : b.length ≤ 100000000000000) :
    PSpec Try.prog 36 [.lst s xs o] (.tup [bV (opened tbl b).1 true, .int .i64 ((opened tbl b).2 : Nat)]) := by
  subst hx
  intro H
  have hoc := opened_cases tbl b
  refine spec_ofU t36 (by simp [p36]) ?_
  simp only [p36]
  first | refine pwp_sr ?_ | refine pwp_regionM ?_
  intro K hK
  simp (disch := first | (refine Ok.mk ?_; (try simp only [Lm, La, Lc, Ln, Lt, Ld, Lr, Li, true_or, or_true, true_and, and_true]); omega) | (simp <;> fail) | skip) [runM_nil]
  refine hK _ _ ?_
  clear hK K
  first | refine pwp_sr ?_ | refine pwp_regionM ?_
  intro K hK
  simp (disch := first | (refine Ok.mk ?_; (try simp only [Lm, La, Lc, Ln, Lt, Ld, Lr, Li, true_or, or_true, true_and, and_true]); omega) | (simp <;> fail) | skip) [runM_nil]
  refine hK _ _ ?_
  clear hK K
  rcases hoc with ⟨h4, e⟩ | ⟨h4, h5, e⟩ | ⟨h4, h5, e⟩
  · first | refine pwp_rif ?_ | refine pwp_rifE ?_
    intro K hK
    simp (disch := first | (refine Ok.mk ?_; (try simp only [Lm, La, Lc, Ln, Lt, Ld, Lr, Li, true_or, or_true, true_and, and_true]); omega) | (simp <;> fail) | skip) [runM_nil]
    refine hK _ _ ?_
    clear hK K
    refine ifT (by simp (disch := first | (refine Ok.mk ?_; (try simp only [Lm, La, Lc, Ln, Lt, Ld, Lr, Li, true_or, or_true, true_and, and_true]); omega) | (simp <;> fail) | skip) [runM_nil]) ?_
    first | refine pwp_sr ?_ | refine pwp_regionM ?_
    intro K hK
    simp (disch := first | (refine Ok.mk ?_; (try simp only [Lm, La, Lc, Ln, Lt, Ld, Lr, Li, true_or, or_true, true_and, and_true]); omega) | (simp <;> fail) | skip) [runM_nil]
    refine hK _ _ ?_
    clear hK K
    rw [e]
    refine pwp_ret ⟨.inr rfl, _, _, _, (by simp (disch := first | (refine Ok.mk ?_; (try simp only [Lm, La, Lc, Ln, Lt, Ld, Lr, Li, true_or, or_true, true_and, and_true]); omega) | (simp <;> fail) | skip) [runM_nil, resL]; rfl), .refl _, (by simp (disch := first | (refine Ok.mk ?_; (try simp only [Lm, La, Lc, Ln, Lt, Ld, Lr, Li, true_or, or_true, true_and, and_true]); omega) | (simp <;> fail) | skip) [resV]), rfl, rfl⟩
  all_goals
    have hml := csum_lt tbl_lt (b.take (b.length - 4))
    have e1 : ((b.length : Int) - 4).toNat = b.length - 4 := by omega
    have hsT : s = 1 := by omega
    subst hsT
    have v1 := cvS_u8 (s := 1) (o := false) (l := four (csum tbl (b.take (b.length - 4)))) rfl (.inl rfl) (four_lt _)
    have v2 := cvS_u8 (s := 1) (o := false) (xs := (b.map u8).drop (b.length - 4)) (l := b.drop (b.length - 4)) (by simp) (.inl rfl) (fun x hx => hw x (List.mem_of_mem_drop hx))
    rw [e]
    first | refine pwp_rif ?_ | refine pwp_rifE ?_
    intro K hK
    simp (disch := first | (refine Ok.mk ?_; (try simp only [Lm, La, Lc, Ln, Lt, Ld, Lr, Li, true_or, or_true, true_and, and_true]); omega) | (simp <;> fail) | skip) [runM_nil]
    refine hK _ _ ?_
    clear hK K
    refine ifF (by simp (disch := first | (refine Ok.mk ?_; (try simp only [Lm, La, Lc, Ln, Lt, Ld, Lr, Li, true_or, or_true, true_and, and_true]); omega) | (simp <;> fail) | skip) [runM_nil]) (pwp_skip ?_)
    first | refine pwp_dif hmix ?_ | refine pwp_difE hmix ?_
    intro K hK
    simp (disch := first | (refine Ok.mk ?_; (try simp only [Lm, La, Lc, Ln, Lt, Ld, Lr, Li, true_or, or_true, true_and, and_true]); omega) | (simp <;> fail) | skip) [runM_nil, e1, v1, v2]
    refine useD (plainSum_ok (b := b.take (b.length - 4)) (by simp) (.inl rfl) (fun x hx => hw x (List.mem_of_mem_take hx)) (by rw [Lt]; omega)) ?_
    simp (disch := first | (refine Ok.mk ?_; (try simp only [Lm, La, Lc, Ln, Lt, Ld, Lr, Li, true_or, or_true, true_and, and_true]); omega) | (simp <;> fail) | skip) [runM_nil, e1, v1, v2]
    refine useD (four_ok _ hml) ?_
    simp (disch := first | (refine Ok.mk ?_; (try simp only [Lm, La, Lc, Ln, Lt, Ld, Lr, Li, true_or, or_true, true_and, and_true]); omega) | (simp <;> fail) | skip) [runM_nil, e1, v1, v2]
    refine hK _ _ ?_
    clear hK K
  · refine ifF (by simp (disch := first | (refine Ok.mk ?_; (try simp only [Lm, La, Lc, Ln, Lt, Ld, Lr, Li, true_or, or_true, true_and, and_true]); omega) | (simp <;> fail) | skip) [runM_nil, h5]) (pwp_skip ?_)
    first | refine pwp_sr ?_ | refine pwp_regionM ?_
    intro K hK
    simp (disch := first | (refine Ok.mk ?_; (try simp only [Lm, La, Lc, Ln, Lt, Ld, Lr, Li, true_or, or_true, true_and, and_true]); omega) | (simp <;> fail) | skip) [runM_nil, e1]
    refine hK _ _ ?_
    clear hK K
    refine pwp_ret ⟨.inr rfl, _, _, _, (by simp (disch := first | (refine Ok.mk ?_; (try simp only [Lm, La, Lc, Ln, Lt, Ld, Lr, Li, true_or, or_true, true_and, and_true]); omega) | (simp <;> fail) | skip) [runM_nil, resL]; rfl), .refl _, (by simp (disch := first | (refine Ok.mk ?_; (try simp only [Lm, La, Lc, Ln, Lt, Ld, Lr, Li, true_or, or_true, true_and, and_true]); omega) | (simp <;> fail) | skip) [resV]), rfl, rfl⟩
  · refine ifT (by simp (disch := first | (refine Ok.mk ?_; (try simp only [Lm, La, Lc, Ln, Lt, Ld, Lr, Li, true_or, or_true, true_and, and_true]); omega) | (simp <;> fail) | skip) [runM_nil, h5]) ?_
    first | refine pwp_sr ?_ | refine pwp_regionM ?_
    intro K hK
    simp (disch := first | (refine Ok.mk ?_; (try simp only [Lm, La, Lc, Ln, Lt, Ld, Lr, Li, true_or, or_true, true_and, and_true]); omega) | (simp <;> fail) | skip) [runM_nil]
    refine hK _ _ ?_
    clear hK K
    refine pwp_ret ⟨.inr rfl, _, _, _, (by simp (disch := first | (refine Ok.mk ?_; (try simp only [Lm, La, Lc, Ln, Lt, Ld, Lr, Li, true_or, or_true, true_and, and_true]); omega) | (simp <;> fail) | skip) [runM_nil, resL]; rfl), .refl _, (by simp (disch := first | (refine Ok.mk ?_; (try simp only [Lm, La, Lc, Ln, Lt, Ld, Lr, Li, true_or, or_true, true_and, and_true]); omega) | (simp <;> fail) | skip) [resV]), rfl, rfl⟩
end Go.Proofs.Ytkbdlgohmafglaa.E
/- One byte that is another one is found, in plain terms. -/
namespace Go.Proofs.Ytkbdlgohmafglaa.E
open Go Go.RowKit
set_option linter.unusedVariables false
set_option linter.unusedSimpArgs false
def tops : List Nat := tbl.map (· / 16777216)
theorem tops_inj : ∀ i ∈ List.range 256, tops.idxOf (tops.getD i 0) = i := by decide +kernel
theorem top_eq (i : Nat) (hi : i < 256) : tops.getD i 0 = tbl.getD i 0 / 16777216 := by
  have h : i < tbl.length := by rw [tbl_length]; exact hi
  simp only [tops, List.getD_eq_getElem?_getD, List.getElem?_map, List.getElem?_eq_getElem h, Option.map_some, Option.getD_some]
theorem tbl_inj {i j : Nat} (hi : i < 256) (hj : j < 256) (h : tbl.getD i 0 / 16777216 = tbl.getD j 0 / 16777216) : i = j := by
  have hi' := tops_inj i (List.mem_range.2 hi)
  have hj' := tops_inj j (List.mem_range.2 hj)
  rw [top_eq i hi, h, ← top_eq j hj, hj'] at hi'
  exact hi'.symm
theorem xor_top (a u : Nat) (hu : u < 16777216) : (a ^^^ u) / 16777216 = a / 16777216 := by
  have h := Nat.shiftRight_xor_distrib (a := a) (b := u) (i := 24)
  simp only [Nat.shiftRight_eq_div_pow] at h
  rw [show (2 : Nat) ^ 24 = 16777216 from rfl, Nat.div_eq_of_lt hu, Nat.xor_zero] at h
  exact h
theorem xor_cancel_left {a b c : Nat} (h : a ^^^ b = a ^^^ c) : b = c := by
  have h2 := congrArg (a ^^^ ·) h
  simp only [← Nat.xor_assoc, Nat.xor_self, Nat.zero_xor] at h2
  exact h2
theorem xor_cancel_right {a b c : Nat} (h : b ^^^ a = c ^^^ a) : b = c := by
  rw [Nat.xor_comm b, Nat.xor_comm c] at h; exact xor_cancel_left h
theorem nxt_inj {c d x y : Nat} (hc : c < 4294967296) (hd : d < 4294967296) (hx : x < 256) (hy : y < 256)
    (h : tbl.getD ((c % 256) ^^^ x) 0 ^^^ (c / 256) = tbl.getD ((d % 256) ^^^ y) 0 ^^^ (d / 256)) : (c % 256) ^^^ x = (d % 256) ^^^ y ∧ c / 256 = d / 256 := by
  have h1 := congrArg (· / 16777216) h
  simp only [xor_top _ _ (show c / 256 < 16777216 by omega), xor_top _ _ (show d / 256 < 16777216 by omega)] at h1
  have e := tbl_inj (xor_lt8 (show c % 256 < 256 by omega) hx) (xor_lt8 (show d % 256 < 256 by omega) hy) h1
  rw [e] at h
  exact ⟨e, xor_cancel_left h⟩
theorem mor_inj : ∀ (b : List Nat), (∀ x ∈ b, x < 256) → ∀ c d : Nat, c < 4294967296 → d < 4294967296 → mor tbl c b = mor tbl d b → c = d
  | [], _, c, d, _, _, h => h
  | x :: b, hb, c, d, hc, hd, h => by
    have hx := hb x (List.mem_cons_self ..)
    have e := mor_inj b (fun y hy => hb y (List.mem_cons_of_mem _ hy)) _ _ (nxt_lt tbl_lt c x hc) (nxt_lt tbl_lt d x hd) h
    obtain ⟨e1, e2⟩ := nxt_inj hc hd hx hx e
    have := xor_cancel_right e1
    omega
theorem mor_changed : ∀ (b : List Nat), (∀ x ∈ b, x < 256) → ∀ (n v c : Nat), c < 4294967296 → n < b.length → v < 256 → mor tbl c (b.set n v) = mor tbl c b → v = b.getD n 0
  | [], _, n, v, c, _, hn, _, _ => absurd hn (by simp)
  | x :: b, hb, 0, v, c, hc, hn, hv, h => by
    have hx := hb x (List.mem_cons_self ..)
    have e := mor_inj b (fun y hy => hb y (List.mem_cons_of_mem _ hy)) _ _ (nxt_lt tbl_lt c v hc) (nxt_lt tbl_lt c x hc) h
    exact xor_cancel_left (nxt_inj hc hc hv hx e).1
  | x :: b, hb, n + 1, v, c, hc, hn, hv, h =>
    mor_changed b (fun y hy => hb y (List.mem_cons_of_mem _ hy)) n v _ (nxt_lt tbl_lt c x hc) (by simpa using hn) hv h
theorem four_inj {c d : Nat} (hc : c < 4294967296) (hd : d < 4294967296) (h : four c = four d) : c = d := by
  simp only [four, List.cons.injEq, and_true] at h
  omega
theorem getD_left (a b : List Nat) (n : Nat) (h : n < a.length) : (a ++ b).getD n 0 = a.getD n 0 := by
  simp only [List.getD_eq_getElem?_getD, List.getElem?_append_left h]
theorem getD_right (a b : List Nat) (n : Nat) (h : a.length ≤ n) : (a ++ b).getD n 0 = b.getD (n - a.length) 0 := by
  simp only [List.getD_eq_getElem?_getD, List.getElem?_append_right h]
theorem xor_ne (x y : Nat) (hy : y ≠ 0) : x ^^^ y ≠ x := by
  intro h
  exact hy (xor_cancel_left (a := x) (by rw [h, Nat.xor_zero]))
theorem opened_changed {b : List Nat} (hb : ∀ x ∈ b, x < 256) (n y : Nat) (hn : n < b.length + 4) (hy : y < 256) (hy0 : y ≠ 0) :
    (opened tbl ((sealed tbl b).set n ((sealed tbl b).getD n 0 ^^^ y))).2 = 4 := by
  have hs := sealed_lt tbl hb
  have hv : (sealed tbl b).getD n 0 ^^^ y < 256 := xor_lt8 (getD_lt hs (by omega)) hy
  unfold opened
  rw [List.length_set, sealed_length, if_neg (by omega), show b.length + 4 - 4 = b.length by omega]
  rw [if_neg]
  intro h
  by_cases hlt : n < b.length
  · have e1 : ((sealed tbl b).set n ((sealed tbl b).getD n 0 ^^^ y)).take b.length = b.set n (b.getD n 0 ^^^ y) := by
      unfold sealed
      rw [List.set_append_left _ _ hlt, List.take_left' (by rw [List.length_set]), getD_left _ _ _ hlt]
    have e2 : ((sealed tbl b).set n ((sealed tbl b).getD n 0 ^^^ y)).drop b.length = four (csum tbl b) := by
      unfold sealed
      rw [List.set_append_left _ _ hlt, List.drop_left' (by rw [List.length_set])]
    rw [e1, e2] at h
    have h3 := xor_cancel_right (four_inj (csum_lt tbl_lt _) (csum_lt tbl_lt _) h)
    have hvb : b.getD n 0 ^^^ y < 256 := xor_lt8 (getD_lt hb (by omega)) hy
    exact xor_ne _ y hy0 (mor_changed b hb n _ _ (by omega) hlt hvb h3)
  · have e1 : ((sealed tbl b).set n ((sealed tbl b).getD n 0 ^^^ y)).take b.length = b := by
      unfold sealed
      rw [List.set_append_right _ _ (by omega), List.take_left]
    have e2 : ((sealed tbl b).set n ((sealed tbl b).getD n 0 ^^^ y)).drop b.length = (four (csum tbl b)).set (n - b.length) ((four (csum tbl b)).getD (n - b.length) 0 ^^^ y) := by
      unfold sealed
      rw [List.set_append_right _ _ (by omega), List.drop_left, getD_right _ _ _ (by omega)]
    rw [e1, e2] at h
    have h3 := congrArg (fun l => l.getD (n - b.length) 0) h
    simp only [List.getD_eq_getElem?_getD, List.getElem?_set_self (l := four (csum tbl b)) (i := n - b.length) (by rw [four_length]; omega), Option.getD_some] at h3
    exact xor_ne _ y hy0 h3.symm
end Go.Proofs.Ytkbdlgohmafglaa.E
/- slices.Chunk of bytes, ranged over: the pieces come one after the other (the inner function over the model itself). -/
namespace Go.Proofs.Ytkbdlgohmafglaa.E
open Go Go.RowKit Go.Proofs
attribute [local go_sem] Oper.semAt_some
set_option linter.unusedVariables false
set_option linter.unusedSimpArgs false
/-- Kept out of sight. -/
structure Hid (p : Prop) : Prop where
  out : p
/-- A piece's value. -/
def pvC (ad : Addr) (len m k : Nat) : Value := .slice (some (ad.add k)) (min m (len - k)) (min m (len - k))
def frC (N j : Nat) : List (Fin N) := (List.finRange N).take j
theorem frC_length {N j : Nat} (h : j ≤ N) : (frC N j).length = j := by simp [frC]; omega
theorem frC_succ {N j : Nat} (h : j < N) : frC N (j + 1) = frC N j ++ [⟨j, h⟩] := by
  unfold frC
  rw [List.take_succ_eq_append_getElem (by simpa using h)]
  simp
/-- What a round keeps of the two captured variables. -/
def KpC (p q : Addr) (s n : Value) (A B : World) : Prop := (A.cell? p = some s → B.cell? p = some s) ∧ (A.cell? q = some n → B.cell? q = some n)
theorem KpC.trans {p q : Addr} {s n : Value} {A B C : World} (h : KpC p q s n A B) (k : KpC p q s n B C) : KpC p q s n A C := ⟨fun e => k.1 (h.1 e), fun e => k.2 (h.2 e)⟩
set_option maxRecDepth 100000 in
set_option maxHeartbeats 4000000 in
theorem chunk1_in (F : Fence) (n : Nat) (h32 : F.fn 32) (hro : F.round = none) (hn : 1 ≤ n) (l B oB C oC : Nat) (ad : Addr) (len cap m N : Nat) (hm : 1 ≤ m) (hm2 : m ≤ 1000) (hlen : len ≤ 140737488351232) (hcap : len ≤ cap) (hN : ∀ j, j * m < len ↔ j < N)
    (J Jx : List (Fin N) → World → Prop) (B0 : Nat) (hJ : AbidesFrom B0 J)
    (hY : ∀ pre x W, J pre W → pre.length < N → YieldAt F (n - 1) Try.prog l #[pvC ad len m (x.val * m)] W fun e W' =>
      (e = .returned (.bool true) ∧ J (pre ++ [x]) W' ∧ KpC ⟨B, oB, none⟩ ⟨C, oC, none⟩ (.slice (some ad) len cap) (.int .i64 m) W W') ∨ (e = .returned (.bool false) ∧ Jx (pre ++ [x]) W'))
    (W : World) (hB : W.cell? ⟨B, oB, none⟩ = some (.slice (some ad) len cap)) (hB1 : W.cell? ⟨C, oC, none⟩ = some (.int .i64 m)) (h0 : J [] W) :
    CallsIn F n Try.prog 32 #[.func (.yield l) #[] #[], .pointer (some ⟨B, oB, none⟩), .pointer (some ⟨C, oC, none⟩)] W fun e W' => (∃ v, e = .returned v) ∧
      ((∃ ys, ys = List.finRange N ∧ J ys W') ∨ (∃ pre, pre <+: List.finRange N ∧ Jx pre W')) := by
  refine callsIn_of_wp Try.func32 rfl h32 ?_ hro
  simp only [Try.ntmps32, List.size_toArray, List.length_cons, List.length_nil, Nat.reduceAdd, Nat.reduceSub, Array.replicate_succ, Array.replicate_zero, List.push_toArray, List.append_toArray, List.nil_append, List.cons_append]
  gi_wp2
  gi_loopw [4] (fun i wr => ∃ j : Nat, j ≤ N ∧ i = .int .i64 ((j * m : Nat) : Int) ∧ J (frC N j) wr ∧ wr.cell? ⟨B, oB, none⟩ = some (.slice (some ad) len cap) ∧ wr.cell? ⟨C, oC, none⟩ = some (.int .i64 m))
    (fun i _ => len - (intOf i).toNat)
  case atStart => exact ⟨0, Nat.zero_le _, by simp, h0, hB, hB1⟩
  case round =>
    obtain ⟨j, hj, rfl, hJs, hcs, hcn⟩ := hrel
    obtain ⟨i, hi⟩ : ∃ i, j * m = i := ⟨_, rfl⟩
    rw [hi]
    by_cases hlt : i < len
    · have hjN : j < N := (hN j).1 (by omega)
      have hcap3 : i < cap := by omega
      have HI := Hid.mk hi
      have HJ2 := Hid.mk hJs
      clear hi hJs
      gi_wp2
      refine wpIn_region_quiet_lit hro (by kernel_rfl) (by kernel_rfl) ?_
      repeat (gi_big_quiet_step (fail))
      refine wpQuietIn_nil ?_
      intro _ hw'
      obtain ⟨nq, hw''⟩ := hw'
      subst hw''
      obtain ⟨e, he⟩ : ∃ e : Nat, e = min m (len - i) := ⟨_, rfl⟩
      rw [show (if len - i < m then ((len - i : Nat) : Int) else (m : Int)) = (e : Int) by split <;> omega]
      have he1 : 1 ≤ e := by omega
      have he2 : i + e ≤ len := by omega
      have hcs2 : (wr.drewN nq).cell? ⟨B, oB, none⟩ = some (.slice (some ad) len cap) := hcs
      have hcn2 : (wr.drewN nq).cell? ⟨C, oC, none⟩ = some (.int .i64 m) := hcn
      have HJ3 := Hid.mk (hJ _ wr (wr.drewN nq) none HJ2.out ⟨rfl, rfl, rfl, Nat.le_refl _, fun _ _ _ => rfl⟩ (fun r h => by cases h))
      clear hcs hcn HJ2
      obtain ⟨fn, tmps, assign, body, hy, hR⟩ := hY _ ⟨j, hjN⟩ (wr.drewN nq) HJ3.out (by rw [frC_length (by omega)]; exact hjN)
      unfold pvC at hy
      dsimp only at hy
      rw [HI.out] at hy
      rw [← he] at hy
      have HE := Hid.mk he
      clear he
      have hcap4 : i + e ≤ cap := by omega
      gi_wp2
      refine hR.mono ?_
      rintro e' W3 (⟨rfl, hJ4, hk4⟩ | ⟨rfl, hJx4⟩)
      · have hcs4 := hk4.1 hcs2
        have hcn4 := hk4.2 hcn2
        have HJ4 := Hid.mk hJ4
        clear hJ4 hk4 hcs2 hcn2 hy hR
        gi_wp2
        go_roundw
        case rel => exact ⟨j + 1, hjN, by have := HI.out; rw [Nat.succ_mul]; simp; omega, by rw [frC_succ hjN]; exact HJ4.out, hcs4, hcn4⟩
        case measure => simp [intOf]; omega
      · gi_wp2
        refine bodyPost_ret (results_none rfl _ _ _) rfl ?_
        exact ⟨⟨_, rfl⟩, .inr ⟨_, by rw [← frC_succ hjN]; exact List.take_prefix _ _, hJx4⟩⟩
    · have hjN : j = N := by
        have := hN j
        omega
      have HJ2 := Hid.mk hJs
      clear hJs hi
      gi_wp2
      go_end0
      exact ⟨⟨_, rfl⟩, .inl ⟨_, rfl, by rw [← (show frC N j = List.finRange N from List.take_of_length_le (by simp; omega))]; exact HJ2.out⟩⟩
set_option maxRecDepth 100000 in
set_option maxHeartbeats 1000000 in
/-- .. of no elements: no round. -/
theorem chunk1_none_in (F : Fence) (n : Nat) (h32 : F.fn 32) (hro : F.round = none) (l B oB : Nat) (q : Addr) (a : Option Addr) (cap : Nat) (J : World → Prop) (W : World) (hB : W.cell? ⟨B, oB, none⟩ = some (.slice a 0 cap)) (h0 : J W) :
    CallsIn F n Try.prog 32 #[.func (.yield l) #[] #[], .pointer (some ⟨B, oB, none⟩), .pointer (some q)] W fun e W' => (∃ v, e = .returned v) ∧ J W' := by
  refine callsIn_of_wp Try.func32 rfl h32 ?_ hro
  simp only [Try.ntmps32, List.size_toArray, List.length_cons, List.length_nil, Nat.reduceAdd, Nat.reduceSub, Array.replicate_succ, Array.replicate_zero, List.push_toArray, List.append_toArray, List.nil_append, List.cons_append]
  gi_wp2
  gi_loopw [4] (fun i wr => i = .int .i64 0 ∧ J wr ∧ wr.cell? ⟨B, oB, none⟩ = some (.slice a 0 cap)) (fun _ _ => 0)
  case atStart => exact ⟨rfl, h0, hB⟩
  case round =>
    obtain ⟨rfl, hJs, hc⟩ := hrel
    gi_wp2
    go_end0
    exact ⟨⟨_, rfl⟩, hJs⟩
end Go.Proofs.Ytkbdlgohmafglaa.E
/- slices.Chunk of bytes, ranged over: its contract. -/
namespace Go.Proofs.Ytkbdlgohmafglaa.E
open Go Go.RowKit Go.Proofs
set_option linter.unusedVariables false
set_option linter.unusedSimpArgs false
def chunksP {α : Type} (m : Nat) (l : List α) : List (List α) := (List.range ((l.length + m - 1) / m)).map fun j => (l.drop (j * m)).take m
theorem chunksP_count {len m : Nat} (hm : 1 ≤ m) (j : Nat) : j * m < len ↔ j < (len + m - 1) / m := by
  rw [Nat.lt_div_iff_mul_lt (by omega)]
  have : m * j = j * m := Nat.mul_comm _ _
  constructor <;> intro h <;> omega
def pvA (A : Option Addr) (len m k : Nat) : Value := match A with
  | some ad => pvC ad len m k
  | none => .slice none 0 0
theorem chunk_iter (l : List PV) (s : Nat) (hs1 : s = 1 ∨ l.length = 0) (o : Bool) (m : Nat) (hm : 1 ≤ m) (hm2 : m ≤ 1000) (hl : l.length ≤ 140737488351232) :
    Iter Try.prog 32 [.ip 1 [.lst s l o] 0 0, .ip 1 [.int .i64 m] 0 0] ((chunksP m l).map fun p => [.lst 1 p false]) := by
  refine ⟨by kernel_rfl, fun out w g vals hw hv => ?_⟩
  obtain ⟨v1, vs1, e1, ⟨b1, base1, us1, rfl, _, hr1, hu1⟩, v2, vs2, rfl, ⟨b2, base2, us2, rfl, _, hr2, hu2⟩, rfl⟩ := hv
  obtain ⟨_, _, sv, us1', rfl, hs, rfl⟩ := hu1
  obtain ⟨_, _, n, us2', rfl, rfl, rfl⟩ := hu2
  obtain ⟨A, cap, rfl, hc1, hc2, hA, _⟩ := hs
  have hvals : vals = #[.pointer (some ⟨b1, base1, none⟩), .pointer (some ⟨b2, base2, none⟩)] := by
    apply Array.toList_inj.1
    simpa using e1
  subst hvals
  have hcs := hr1.cell (j := 0) (v := .slice A l.length cap) rfl
  have hcn := hr2.cell (j := 0) (v := .int .i64 m) rfl
  rw [Nat.add_zero] at hcs hcn
  obtain ⟨N, hNe⟩ : ∃ N, N = (l.length + m - 1) / m := ⟨_, rfl⟩
  have hlen : ((chunksP m l).map fun p => ([.lst 1 p false] : List PV)).length = N := by simp [chunksP, hNe]
  have hN : ∀ j, j * m < l.length ↔ j < N := fun j => by rw [hNe]; exact chunksP_count hm j
  have hget : ∀ i : Fin ((chunksP m l).map fun p => ([.lst 1 p false] : List PV)).length, ((chunksP m l).map fun p => ([.lst 1 p false] : List PV))[i] = [.lst 1 ((l.drop (i.val * m)).take m) false] := fun i => by rw [Fin.getElem_fin]; simp [chunksP]
  refine ⟨fun i => #[pvA A l.length m (i.val * m)], fun i => ?_, ?_⟩
  · rw [hget i]
    have hi : i.val * m < l.length := (hN _).2 (by have := i.isLt; omega)
    rcases hA with hA | ⟨b, off, vs, rfl, hr, hvs⟩
    · have := congrArg List.length hA
      simp only [List.length_nil] at this
      omega
    · obtain rfl : s = 1 := hs1.resolve_right (by omega)
      refine ⟨_, [], rfl, ?_, rfl⟩
      have e2 : ((l.drop (i.val * m)).take m).length = min m (l.length - i.val * m) := by simp
      generalize i.val * m = k at *
      refine ⟨some ⟨b, off + k, none⟩, min m (l.length - k), ?_, by omega, by simp only [maxLen] at hc2 ⊢; omega, .inr ⟨b, off + k, (vs.drop k).take (min m (l.length - k)), rfl, ?_, ?_⟩, fun _ h => by cases h⟩
      · have e3 : (⟨b, off, none⟩ : Addr).add k = ⟨b, off + k, none⟩ := by
          unfold Addr.add
          split
          · rename_i h; simp [h]
          · rfl
        simp only [pvA, pvC, e2, e3]
      · rw [e2]
        have := hr.part k (min m (l.length - k)) (by omega)
        simpa using this
      · have h1 := (VRe_take (n := k) (by omega) hvs).2
        have h2 := (VRe_take (n := min m (l.length - k)) (by simp; omega) h1).1
        simp only [Nat.mul_one] at h2
        have e3 : (l.drop k).take m = (l.drop k).take (min m (l.length - k)) := by
          rcases Nat.le_total m (l.length - k) with h | h
          · rw [Nat.min_eq_left h]
          · rw [Nat.min_eq_right h, List.take_of_length_le (by simp; omega), List.take_of_length_le (by simp)]
        rw [e3]
        exact h2
  · intro l' J Jx W hW hJ _ hY h0
    have hB' := KpW.of_evol (Evol.refl out w g) (Below.refl 0 w)
    have keep : ∀ b base v, Readable w g b base 1 [v] → ∀ X, RdW X b base 1 [v] → X.cell? ⟨b, base, none⟩ = some v := by
      intro b base v _ X hx
      rcases hx with hx | ⟨c, e, fz, q1, q2⟩
      · cases hx
      · have q3 : c.toList[base]? = some v := by
          have := congrArg (fun l => l[0]?) q2
          simpa using this
        simp only [World.cell?, q1, Array.getElem?_toList] at q3 ⊢
        exact q3
    have back : ∀ b base v, Readable w g b base 1 [v] → ∀ X, X.cell? ⟨b, base, none⟩ = some v → RdW X b base 1 [v] := by
      intro b base v _ X hx
      simp only [World.cell?] at hx
      split at hx
      · rename_i c e fz hc
        refine .inr ⟨c, e, fz, hc, ?_⟩
        obtain ⟨h1, h2⟩ := Array.getElem?_eq_some_iff.1 hx
        have h3 : base < c.toList.length := h1
        rw [List.drop_eq_getElem_cons h3]
        simp only [List.take_succ_cons, List.take_zero]
        exact congrArg (fun v => [v]) h2
      · cases hx
    have hcB : ∀ p, p.block < w.heap.size → W.cell? p = w.cell? p := fun p hp => hW.cell hp
    have hlt1 : b1 < w.heap.size := by
      obtain ⟨_, h | ⟨c, e, fz, h, _⟩⟩ := hr1
      · cases h
      · exact lt_of_heap h
    have hlt2 : b2 < w.heap.size := by
      obtain ⟨_, h | ⟨c, e, fz, h, _⟩⟩ := hr2
      · cases h
      · exact lt_of_heap h
    have hcs' := (hcB ⟨b1, base1, none⟩ hlt1).trans hcs
    have hcn' := (hcB ⟨b2, base2, none⟩ hlt2).trans hcn
    have hk : ∀ X Y, KpW w g X Y → KpC ⟨b1, base1, none⟩ ⟨b2, base2, none⟩ (.slice A l.length cap) (.int .i64 m) X Y := fun X Y h =>
      ⟨fun e => keep _ _ _ hr1 Y (h.2 _ _ _ _ hr1 (back _ _ _ hr1 X e)), fun e => keep _ _ _ hr2 Y (h.2 _ _ _ _ hr2 (back _ _ _ hr2 X e))⟩
    clear hB'
    by_cases h : 0 < l.length
    · obtain ⟨ad, rfl⟩ : ∃ ad, A = some ad := by
        rcases hA with hA | ⟨b, off, vs, rfl, _, _⟩
        · rw [hA] at h; simp at h
        · exact ⟨_, rfl⟩
      exact chunk1_in (WR none) 5 trivial rfl (by omega) l' b1 base1 b2 base2 ad l.length cap m _ hm hm2 hl hc1 (by rw [hlen]; exact hN) J Jx _ hJ (fun pre x W1 hj hp => by
        obtain ⟨fn, tmps, asg, body, y1, y2⟩ := hY pre x W1 hj hp
        exact ⟨fn, tmps, asg, body, y1, y2.mono fun e W' hr => hr.imp (fun ⟨a1, a2, a3⟩ => ⟨a1, a2, hk _ _ a3⟩) id⟩) W hcs' hcn' h0
    · have hl0 : l.length = 0 := by omega
      have hN0 : ((chunksP m l).map fun p => ([.lst 1 p false] : List PV)).length = 0 := by
        have := hN 0
        omega
      rw [hl0] at hcs'
      refine (chunk1_none_in (WR none) 5 trivial rfl l' b1 base1 ⟨b2, base2, none⟩ A cap (fun W' => J [] W') W hcs' h0).mono fun e W' ⟨he, hj⟩ => ⟨he, .inl ⟨[], ?_, hj⟩⟩
      exact (List.eq_nil_of_length_eq_zero (by simpa using hN0)).symm
theorem chunksP_map {α β : Type} (f : α → β) (m : Nat) (l : List α) : chunksP m (l.map f) = (chunksP m l).map (List.map f) := by
  simp [chunksP, List.map_drop, List.map_take]
def chV (p : List Nat) : List PV := [.lst 1 (p.map u8) false]
theorem u8s_inj {a b : List Nat} (h : a.map u8 = b.map u8) : a = b :=
  (List.map_inj_right (fun x y e => by simp only [u8, PV.int.injEq, true_and] at e; omega)).1 h
theorem chV_inj (a b : List Nat) (h : chV a = chV b) : a = b := by
  simp only [chV, List.cons.injEq, PV.lst.injEq, and_true, true_and] at h
  exact u8s_inj h
theorem chunkB_iter {s : Nat} {xs : List PV} {o : Bool} {b : List Nat} (hx : xs = b.map u8) (hs : s = 1 ∨ b.length = 0) (m : Nat) (hm : 1 ≤ m) (hm2 : m ≤ 1000) (hl : b.length ≤ 140737488351232) :
    Iter Try.prog 32 [.ip 1 [.lst s xs o] 0 0, .ip 1 [.int .i64 m] 0 0] ((chunksP m b).map chV) := by
  subst hx
  have := chunk_iter (b.map u8) s (by simpa using hs) o m hm hm2 (by simpa using hl)
  rw [chunksP_map, List.map_map] at this
  exact this
theorem chunk_ok {s : Nat} {xs : List PV} {o : Bool} (m : Nat) (hm : 1 ≤ m) (hm2 : m ≤ 1000) :
    PSpec Try.prog 24 [.lst s xs o, .int .i64 m] (.fn (.func 32) [] [.ip 1 [.lst s xs false] 0 0, .ip 1 [.int .i64 m] 0 0]) := by
  intro H
  have h1 : ¬ ((m : Int) < 1) := by omega
  refine spec_of t24 (by simp [p24]) ?_
  simp only [p24]
  first | refine pwp_sr ?_ | refine pwp_regionM ?_
  intro K hK
  simp (disch := first | (refine Ok.mk ?_; (try simp only [Lm, La, Lc, Ln, Lt, Ld, Lr, Li, true_or, or_true, true_and, and_true]); omega) | (simp <;> fail) | skip) [runM_nil]
  refine hK _ _ ?_
  clear hK K
  first | refine pwp_rif ?_ | refine pwp_rifE ?_
  intro K hK
  simp (disch := first | (refine Ok.mk ?_; (try simp only [Lm, La, Lc, Ln, Lt, Ld, Lr, Li, true_or, or_true, true_and, and_true]); omega) | (simp <;> fail) | skip) [runM_nil, h1]
  refine hK _ _ ?_
  clear hK K
  refine ifF (by simp (disch := first | (refine Ok.mk ?_; (try simp only [Lm, La, Lc, Ln, Lt, Ld, Lr, Li, true_or, or_true, true_and, and_true]); omega) | (simp <;> fail) | skip) [runM_nil]) (pwp_skip ?_)
  first | refine pwp_sr ?_ | refine pwp_regionM ?_
  intro K hK
  simp (disch := first | (refine Ok.mk ?_; (try simp only [Lm, La, Lc, Ln, Lt, Ld, Lr, Li, true_or, or_true, true_and, and_true]); omega) | (simp <;> fail) | skip) [runM_nil]
  refine hK _ _ ?_
  clear hK K
  refine pwp_ret ⟨.inr rfl, _, _, (by simp (disch := first | (refine Ok.mk ?_; (try simp only [Lm, La, Lc, Ln, Lt, Ld, Lr, Li, true_or, or_true, true_and, and_true]); omega) | (simp <;> fail) | skip) [runM_nil, resL]; rfl), .refl _, by simp (disch := first | (refine Ok.mk ?_; (try simp only [Lm, La, Lc, Ln, Lt, Ld, Lr, Li, true_or, or_true, true_and, and_true]); omega) | (simp <;> fail) | skip) [resV], rfl⟩
end Go.Proofs.Ytkbdlgohmafglaa.E
/- Bytes in blocks, in plain terms. -/
namespace Go.Proofs.Ytkbdlgohmafglaa.E
open Go Go.RowKit
set_option linter.unusedVariables false
set_option linter.unusedSimpArgs false
/-- Row j of rows of m. -/
def ck (m : Nat) (l : List Nat) (j : Nat) : List Nat := (l.drop (j * m)).take m
def rws (m : Nat) (l : List Nat) : List (List Nat) := (List.range ((l.length + m - 1) / m)).map (ck m l)
theorem ck_lt {m : Nat} {l : List Nat} (h : ∀ x ∈ l, x < 256) (j : Nat) : ∀ x ∈ ck m l j, x < 256 := fun x hx => h x (List.mem_of_mem_drop (List.mem_of_mem_take hx))
theorem ck_length (m : Nat) (l : List Nat) (j : Nat) : (ck m l j).length = min m (l.length - j * m) := by simp [ck]
theorem rws_mem {m : Nat} {l : List Nat} (hm : 0 < m) {p : List Nat} (h : p ∈ rws m l) : ∃ j, j * m < l.length ∧ p = ck m l j := by
  obtain ⟨j, hj, rfl⟩ := List.mem_map.1 h
  have hj := List.mem_range.1 hj
  refine ⟨j, ?_, rfl⟩
  have := (Nat.le_div_iff_mul_le hm).1 (Nat.succ_le_of_lt hj)
  rw [Nat.succ_mul] at this
  omega
theorem ck_succ (m : Nat) (l : List Nat) (j : Nat) : ck m l (j + 1) = ck m (l.drop m) j := by
  unfold ck
  rw [List.drop_drop, Nat.succ_mul, Nat.add_comm]
theorem rws_nil (m : Nat) (hm : 0 < m) : rws m [] = [] := by
  unfold rws
  rw [show ([] : List Nat).length + m - 1 = m - 1 by simp, Nat.div_eq_of_lt (by omega)]
  rfl
theorem rws_cons {m : Nat} (hm : 0 < m) {l : List Nat} (h : l ≠ []) : rws m l = l.take m :: rws m (l.drop m) := by
  have hl : 0 < l.length := List.length_pos_iff.2 h
  unfold rws
  have e : (l.length + m - 1) / m = ((l.drop m).length + m - 1) / m + 1 := by
    rw [List.length_drop]
    rcases Nat.lt_or_ge m l.length with h1 | h1
    · rw [show l.length + m - 1 = (l.length - m + m - 1) + m by omega, Nat.add_div_right _ hm]
    · rw [show l.length - m + m - 1 = m - 1 by omega, Nat.div_eq_of_lt (show m - 1 < m by omega), show l.length + m - 1 = (l.length - 1) + m by omega, Nat.add_div_right _ hm, Nat.div_eq_of_lt (by omega)]
  rw [e, List.range_succ_eq_map, List.map_cons, List.map_map]
  congr 1
  · simp [ck]
  · refine List.map_congr_left (fun j _ => ?_)
    simp only [Function.comp, ck_succ]
/-- What is stored. -/
def sto (l : List Nat) : List Nat := (rws 64 l).flatMap (sealed tbl)
theorem sto_nil : sto [] = [] := by simp [sto, rws_nil]
theorem sto_cons {l : List Nat} (h : l ≠ []) : sto l = sealed tbl (l.take 64) ++ sto (l.drop 64) := by
  unfold sto
  rw [rws_cons (by omega) h, List.flatMap_cons]
theorem sto_drop (l : List Nat) : (sto l).drop 68 = sto (l.drop 64) := by
  by_cases h : l = []
  · subst h; simp [sto_nil]
  rw [sto_cons h, List.drop_append]
  have hl := sealed_length tbl (l.take 64)
  rw [List.length_take] at hl
  by_cases h64 : 64 ≤ l.length
  · rw [List.drop_of_length_le (by omega), hl, show 68 - (min 64 l.length + 4) = 0 by omega]
    rfl
  · rw [show l.drop 64 = [] from List.drop_of_length_le (by omega), sto_nil, List.drop_of_length_le (by omega)]
    simp
theorem sto_take {l : List Nat} (h : l ≠ []) : (sto l).take 68 = sealed tbl (l.take 64) := by
  rw [sto_cons h, List.take_append]
  have hl := sealed_length tbl (l.take 64)
  rw [List.length_take] at hl
  by_cases h64 : 64 ≤ l.length
  · rw [List.take_of_length_le (by omega), hl, show 68 - (min 64 l.length + 4) = 0 by omega]
    simp
  · rw [show l.drop 64 = [] from List.drop_of_length_le (by omega), sto_nil, List.take_of_length_le (by omega)]
    simp
theorem sto_ck : ∀ (j : Nat) (l : List Nat), j * 64 < l.length → ck 68 (sto l) j = sealed tbl (ck 64 l j)
  | 0, l, h => by
    have h0 : l ≠ [] := List.length_pos_iff.1 (by omega)
    simp only [ck, Nat.zero_mul, List.drop_zero]
    exact sto_take h0
  | j + 1, l, h => by
    rw [ck_succ, sto_drop, sto_ck j _ (by rw [List.length_drop]; omega), ck_succ]
theorem sto_lt {l : List Nat} (h : ∀ x ∈ l, x < 256) : ∀ x ∈ sto l, x < 256 := by
  intro x hx
  obtain ⟨p, hp, hx⟩ := List.mem_flatMap.1 hx
  obtain ⟨j, _, rfl⟩ := rws_mem (by omega) hp
  exact sealed_lt tbl (ck_lt h j) x hx
theorem sto_length : ∀ (n : Nat) (l : List Nat), l.length ≤ n → (sto l).length = l.length + (l.length + 63) / 64 * 4
  | 0, l, h => by
    have : l = [] := List.eq_nil_of_length_eq_zero (by omega)
    subst this
    simp [sto_nil]
  | n + 1, l, h => by
    by_cases h0 : l = []
    · subst h0; simp [sto_nil]
    have hl : 0 < l.length := List.length_pos_iff.2 h0
    rw [sto_cons h0, List.length_append, sealed_length, sto_length n _ (by rw [List.length_drop]; omega), List.length_take, List.length_drop]
    omega
def opb (s : List Nat) : List Nat × Bool := ((opened tbl s).1, decide ((opened tbl s).2 = 0 ∧ 0 < (opened tbl s).1.length))
theorem opened_length (s : List Nat) : (opened tbl s).1.length ≤ s.length - 4 := by
  unfold opened
  split
  · simp
  · split
    · simp
    · simp
/-- What is loaded. -/
def loa (s : List Nat) : List Nat × Nat := if (rws 68 s).all (fun p => (opb p).2) then ((rws 68 s).flatMap (fun p => (opb p).1), 0) else ([], 16)
theorem chunksP_rws (m : Nat) (l : List Nat) : chunksP m l = rws m l := rfl
theorem sto_dropk : ∀ (k : Nat) (l : List Nat), (sto l).drop (k * 68) = sto (l.drop (k * 64))
  | 0, l => by simp
  | k + 1, l => by
    rw [show (k + 1) * 68 = 68 + k * 68 by omega, ← List.drop_drop, sto_drop, sto_dropk k, List.drop_drop, show (k + 1) * 64 = 64 + k * 64 by omega]
theorem sto_takek : ∀ (k : Nat) (l : List Nat), (sto l).take (k * 68) = sto (l.take (k * 64))
  | 0, l => by simp [sto_nil]
  | k + 1, l => by
    by_cases h : l = []
    · subst h; simp [sto_nil]
    have h2 : l.take ((k + 1) * 64) ≠ [] := by
      have := List.length_pos_iff.2 h
      intro e
      have := congrArg List.length e
      simp only [List.length_take, List.length_nil] at this
      omega
    rw [show (k + 1) * 68 = 68 + k * 68 by omega, List.take_add, sto_take h, sto_drop, sto_takek k, sto_cons h2, List.take_take, List.drop_take, show min 64 ((k + 1) * 64) = 64 by omega, show (k + 1) * 64 - 64 = k * 64 by omega]
theorem sto_split (k : Nat) (l : List Nat) : sto (l.take (k * 64)) ++ sto (l.drop (k * 64)) = sto l := by
  rw [← sto_takek, ← sto_dropk, List.take_append_drop]
theorem sto_len (l : List Nat) : (sto l).length = l.length + (l.length + 63) / 64 * 4 := sto_length _ l (Nat.le_refl _)
theorem rws_sto (l : List Nat) : rws 68 (sto l) = (rws 64 l).map (sealed tbl) := by
  have e : ((sto l).length + 68 - 1) / 68 = (l.length + 64 - 1) / 64 := by
    rw [sto_len]
    omega
  unfold rws
  rw [e, List.map_map]
  refine List.map_congr_left fun j hj => ?_
  have hj := List.mem_range.1 hj
  have h1 : j * 64 < l.length := by
    have := (Nat.le_div_iff_mul_le (show 0 < 64 by omega)).1 (Nat.succ_le_of_lt hj)
    omega
  exact sto_ck j l h1
theorem rws_flat : ∀ (n : Nat) (l : List Nat), l.length ≤ n → (rws 64 l).flatMap id = l
  | 0, l, h => by
    have : l = [] := List.eq_nil_of_length_eq_zero (by omega)
    subst this
    simp [rws_nil]
  | n + 1, l, h => by
    by_cases h0 : l = []
    · subst h0; simp [rws_nil]
    have hl : 0 < l.length := List.length_pos_iff.2 h0
    rw [rws_cons (by omega) h0, List.flatMap_cons, rws_flat n _ (by rw [List.length_drop]; omega)]
    exact List.take_append_drop 64 l
theorem rws_ne {m : Nat} (hm : 0 < m) {l p : List Nat} (h : p ∈ rws m l) : p ≠ [] := by
  obtain ⟨j, hj, rfl⟩ := rws_mem hm h
  intro e
  have := congrArg List.length e
  rw [ck_length, List.length_nil] at this
  omega
theorem opb_sealed {p : List Nat} (h : p ≠ []) : opb (sealed tbl p) = (p, true) := by
  have := List.length_pos_iff.2 h
  simp [opb, open_sealed, this]
theorem loa_sto (l : List Nat) : loa (sto l) = (l, 0) := by
  unfold loa
  rw [rws_sto]
  have h1 : ((rws 64 l).map (sealed tbl)).all (fun p => (opb p).2) = true := by
    rw [List.all_eq_true]
    intro q hq
    obtain ⟨p, hp, rfl⟩ := List.mem_map.1 hq
    rw [opb_sealed (rws_ne (by omega) hp)]
  have h2 : ((rws 64 l).map (sealed tbl)).flatMap (fun p => (opb p).1) = l := by
    rw [List.flatMap_map]
    have : (rws 64 l).flatMap (fun p => (opb (sealed tbl p)).1) = (rws 64 l).flatMap id := by
      rw [List.flatMap_def, List.flatMap_def]
      congr 1
      refine List.map_congr_left fun p hp => ?_
      rw [opb_sealed (rws_ne (by omega) hp)]
      rfl
    rw [this, rws_flat _ l (Nat.le_refl _)]
  rw [if_pos h1, h2]
/-- Which are damaged. -/
def dmg (s : List Nat) : List Nat := (List.range ((s.length + 67) / 68)).filter fun i => !(opb (ck 68 s i)).2
theorem dmg_sto (l : List Nat) : dmg (sto l) = [] := by
  unfold dmg
  rw [List.filter_eq_nil_iff]
  intro i hi
  have hi := List.mem_range.1 hi
  have h1 : i * 64 < l.length := by
    rw [sto_len] at hi
    omega
  rw [sto_ck i l h1, opb_sealed]
  · simp
  · intro e
    have := congrArg List.length e
    rw [ck_length, List.length_nil] at this
    omega
/-- Of how many bytes. -/
def szB (n : Nat) : Nat := n / 68 * 64 + (n % 68 - 4)
theorem szB_sto (l : List Nat) : szB (sto l).length = l.length := by
  unfold szB
  rw [sto_len]
  omega
/-- In how many bytes so many are stored. -/
def stored (n : Int) : Int := if n < 1 then 0 else n + ((n - 1) / 64 + 1) * 4
theorem stored_sto (l : List Nat) : stored l.length = (sto l).length := by
  unfold stored
  rw [sto_len]
  split <;> omega
/-- What is read. -/
def raB (s : List Nat) (f m : Nat) : List Nat × Nat :=
  if szB s.length < f + m then ([], 1) else if m = 0 then ([], 0) else
    if (loa ((s.drop (f / 64 * 68)).take (((f + m - 1) / 64 + 1 - f / 64) * 68))).2 ≠ 0 then ([], (loa ((s.drop (f / 64 * 68)).take (((f + m - 1) / 64 + 1 - f / 64) * 68))).2)
    else (((loa ((s.drop (f / 64 * 68)).take (((f + m - 1) / 64 + 1 - f / 64) * 68))).1.drop (f % 64)).take m, 0)
theorem raB_sto (l : List Nat) (f m : Nat) (h : f + m ≤ l.length) : raB (sto l) f m = ((l.drop f).take m, 0) := by
  unfold raB
  rw [szB_sto, if_neg (by omega)]
  by_cases h0 : m = 0
  · rw [if_pos h0, h0]; simp
  rw [if_neg h0, sto_dropk, sto_takek, loa_sto, if_neg (by simp)]
  congr 1
  have e1 : f / 64 * 64 + f % 64 = f := by omega
  rw [List.drop_take, List.drop_drop, e1, List.take_take]
  congr 1
  omega
/-- More behind what is stored. -/
def apB (s more : List Nat) : List Nat × Nat :=
  if (loa (s.drop ((s.length - 1) / 68 * 68))).2 ≠ 0 then ([], (loa (s.drop ((s.length - 1) / 68 * 68))).2) else (s.take ((s.length - 1) / 68 * 68) ++ sto ((loa (s.drop ((s.length - 1) / 68 * 68))).1 ++ more), 0)
theorem apB_sto (l more : List Nat) : apB (sto l) more = (sto (l ++ more), 0) := by
  unfold apB
  have e : ((sto l).length - 1) / 68 = (l.length - 1) / 64 := by
    rw [sto_len]
    omega
  rw [e, sto_dropk, loa_sto, if_neg (by simp), sto_takek]
  congr 1
  generalize hk : (l.length - 1) / 64 = k
  have hkl : k * 64 ≤ l.length := by omega
  have h1 : l.take (k * 64) = (l ++ more).take (k * 64) := by rw [List.take_append_of_le_length hkl]
  have h2 : l.drop (k * 64) ++ more = (l ++ more).drop (k * 64) := by rw [List.drop_append_of_le_length hkl]
  rw [h1, h2, sto_split]
theorem opb_lt {s : List Nat} (h : ∀ x ∈ s, x < 256) : ∀ x ∈ (opb s).1, x < 256 := by
  intro x hx
  unfold opb opened at hx
  split at hx
  · simp at hx
  · split at hx
    · exact h x (List.mem_of_mem_take hx)
    · simp at hx
theorem loa_lt {s : List Nat} (h : ∀ x ∈ s, x < 256) : ∀ x ∈ (loa s).1, x < 256 := by
  intro x hx
  unfold loa at hx
  split at hx
  · obtain ⟨p, hp, hx⟩ := List.mem_flatMap.1 hx
    obtain ⟨j, _, rfl⟩ := rws_mem (by omega) hp
    exact opb_lt (ck_lt h j) x hx
  · simp at hx
theorem flat_len_le {α β : Type} (f : α → List β) (m : Nat) : ∀ (l : List α), (∀ y ∈ l, (f y).length ≤ m) → (l.flatMap f).length ≤ l.length * m
  | [], _ => by simp
  | y :: l, h => by
    have h1 := flat_len_le f m l (fun z hz => h z (List.mem_cons_of_mem _ hz))
    have h2 := h y (List.mem_cons_self ..)
    rw [List.flatMap_cons, List.length_append, List.length_cons, Nat.succ_mul]
    omega
theorem rws_count (m : Nat) (l : List Nat) : (rws m l).length = (l.length + m - 1) / m := by simp [rws]
theorem loa_len (s : List Nat) : (loa s).1.length ≤ s.length + 67 := by
  unfold loa
  split
  · have := flat_len_le (fun p => (opb p).1) 64 (rws 68 s) (fun p hp => by
      obtain ⟨j, hj, rfl⟩ := rws_mem (by omega) hp
      have h1 := opened_length (ck 68 s j)
      rw [ck_length] at h1
      show (opened tbl _).1.length ≤ 64
      omega)
    rw [rws_count] at this
    dsimp only
    omega
  · simp
theorem loa_err (s : List Nat) : (loa s).2 = 0 ∨ loa s = ([], 16) := by
  unfold loa
  split
  · exact .inl rfl
  · exact .inr rfl
end Go.Proofs.Ytkbdlgohmafglaa.E
/- Bytes stored in blocks, and loaded. -/
namespace Go.Proofs.Ytkbdlgohmafglaa.E
open Go Go.RowKit Go.Proofs
set_option linter.unusedVariables false
set_option linter.unusedSimpArgs false
theorem store_ok {s : Nat} {xs : List PV} {o : Bool} {b : List Nat} (hx : xs = b.map u8) (hs : s = 1 ∨ b.length = 0) (hw : ∀ x ∈ b, x < 256) (hl : b.length ≤ 1000000) :
    PSpec Try.prog 11 [.lst s xs o] (bV (sto b) true) := by
  intro H
  have hit := chunkB_iter (o := false) hx hs 64 (by omega) (by omega) (by omega)
  rw [chunksP_rws] at hit
  have hro : ∀ p ∈ rws 64 b, (∀ x ∈ p, x < 256) ∧ p.length ≤ 64 := fun p hp => by
    obtain ⟨j, hj, rfl⟩ := rws_mem (by omega) hp
    exact ⟨ck_lt hw j, by rw [ck_length]; omega⟩
  have hsto : sto b = (rws 64 b).flatMap (sealed tbl) := rfl
  have hsl : ∀ pre : List (List Nat), (∀ p ∈ pre, p ∈ rws 64 b) → pre.length < (rws 64 b).length → (pre.flatMap (sealed tbl)).length ≤ 100000000 := fun pre hp h => by
    have h1 := flat_len_le (sealed tbl) 68 pre fun p hq => by
      have := (hro p (hp p hq)).2
      rw [sealed_length]
      omega
    rw [rws_count] at h
    omega
  generalize rws 64 b = R at *
  generalize sto b = S at *
  refine spec_of t11l (by simp [p11l]) ?_
  simp only [p11l]
  first | refine pwp_sr ?_ | refine pwp_regionM ?_
  intro K hK
  simp (disch := first | (refine Ok.mk ?_; (try simp only [Lm, La, Lc, Ln, Lt, Ld, Lr, Li, true_or, or_true, true_and, and_true]); omega) | (simp <;> fail) | skip) [runM_nil]
  refine hK _ _ ?_
  clear hK K
  first | refine pwp_sr ?_ | refine pwp_regionM ?_
  intro K hK
  simp (disch := first | (refine Ok.mk ?_; (try simp only [Lm, La, Lc, Ln, Lt, Ld, Lr, Li, true_or, or_true, true_and, and_true]); omega) | (simp <;> fail) | skip) [runM_nil]
  intro b3 h_b3
  try simp (disch := first | (refine Ok.mk ?_; (try simp only [Lm, La, Lc, Ln, Lt, Ld, Lr, Li, true_or, or_true, true_and, and_true]); omega) | (simp <;> fail) | skip) [runM_nil]
  refine hK _ _ ?_
  clear hK K
  first | refine pwp_sr ?_ | refine pwp_regionM ?_
  intro K hK
  simp (disch := first | (refine Ok.mk ?_; (try simp only [Lm, La, Lc, Ln, Lt, Ld, Lr, Li, true_or, or_true, true_and, and_true]); omega) | (simp <;> fail) | skip) [runM_nil]
  refine useP (table_ok) ?_
  simp (disch := first | (refine Ok.mk ?_; (try simp only [Lm, La, Lc, Ln, Lt, Ld, Lr, Li, true_or, or_true, true_and, and_true]); omega) | (simp <;> fail) | skip) [runM_nil]
  intro b4 h_b4
  have d_b4_b3 : ¬ b3 = b4 := fun e => by subst e; simp [hget] at h_b4
  try simp (disch := first | (refine Ok.mk ?_; (try simp only [Lm, La, Lc, Ln, Lt, Ld, Lr, Li, true_or, or_true, true_and, and_true]); omega) | (simp <;> fail) | skip) [runM_nil, d_b4_b3, Ne.symm d_b4_b3]
  refine hK _ _ ?_
  clear hK K
  refine pwp_seq ?_
  first | refine pwp_sr ?_ | refine pwp_regionM ?_
  intro K hK
  simp (disch := first | (refine Ok.mk ?_; (try simp only [Lm, La, Lc, Ln, Lt, Ld, Lr, Li, true_or, or_true, true_and, and_true]); omega) | (simp <;> fail) | skip) [runM_nil, d_b4_b3, Ne.symm d_b4_b3]
  refine useP (chunk_ok 64 (by omega) (by omega)) ?_
  simp (disch := first | (refine Ok.mk ?_; (try simp only [Lm, La, Lc, Ln, Lt, Ld, Lr, Li, true_or, or_true, true_and, and_true]); omega) | (simp <;> fail) | skip) [runM_nil, d_b4_b3, Ne.symm d_b4_b3]
  refine hK _ _ ?_
  clear hK K
  refine pwp_block ?_
  refine pwp_upH (H2 := (b4, [.lst 1 (tbl.map u32) false]) :: (b3, [bV [] true]) :: H) ⟨rfl, UpL_refl _ _, rfl, ⟨_, [], rfl, ⟨1, [], true, rfl, .inr ⟨rfl, rfl⟩, fun _ => rfl, rfl⟩, rfl⟩, HUp_refl _⟩ ?_
  refine pwp_kept (keep := [3, 4, 10]) (by simp [keepA, getS]; rfl) ?_
  refine pwp_rangeM chV chV_inj R (by simp [runM_nil]) hit (fun a _ => rfl) (fun pre H' => (∀ p ∈ pre, p ∈ R) ∧ H' = (b4, [.lst 1 (tbl.map u32) false]) :: (b3, [bV (pre.flatMap (sealed tbl)) true]) :: H) (fun _ _ _ => False) ⟨(by simp), by simp⟩ ?_ ?_ ?_
  · rintro pre p _ hp hlt ⟨hpre, rfl⟩
    have hb := hsl pre hpre hlt
    obtain ⟨hw2, hl2⟩ := hro p hp
    have hsp := sealed_length tbl p
    have c := seal_ok tbl_length tbl_lt (ot := false) (o := false) (s := 1) (xs := p.map u8) rfl (.inl rfl) hw2 (by omega)
    generalize hA : pre.flatMap (sealed tbl) = A at *
    generalize hZ : sealed tbl p = Z at *
    simp only [setA, chV, lendA, lend]
    first | refine pwp_sr ?_ | refine pwp_regionM ?_
    intro K hK
    simp (disch := first | (refine Ok.mk ?_; (try simp only [Lm, La, Lc, Ln, Lt, Ld, Lr, Li, true_or, or_true, true_and, and_true]); omega) | (simp <;> fail) | skip) [runM_nil, d_b4_b3, Ne.symm d_b4_b3]
    refine hK _ _ ?_
    clear hK K
    refine ⟨rfl, ?_⟩
    refine pwp_block ?_
    first | refine pwp_sr ?_ | refine pwp_regionM ?_
    intro K hK
    simp (disch := first | (refine Ok.mk ?_; (try simp only [Lm, La, Lc, Ln, Lt, Ld, Lr, Li, true_or, or_true, true_and, and_true]); omega) | (simp <;> fail) | skip) [runM_nil, d_b4_b3, Ne.symm d_b4_b3]
    refine useP (c) ?_
    simp (disch := first | (refine Ok.mk ?_; (try simp only [Lm, La, Lc, Ln, Lt, Ld, Lr, Li, true_or, or_true, true_and, and_true]); omega) | (simp <;> fail) | skip) [runM_nil, d_b4_b3, Ne.symm d_b4_b3]
    refine hK _ _ ?_
    clear hK K
    first | refine pwp_sr ?_ | refine pwp_regionM ?_
    intro K hK
    simp (disch := first | (refine Ok.mk ?_; (try simp only [Lm, La, Lc, Ln, Lt, Ld, Lr, Li, true_or, or_true, true_and, and_true]); omega) | (simp <;> fail) | skip) [runM_nil, d_b4_b3, Ne.symm d_b4_b3]
    refine hK _ _ ?_
    clear hK K
    refine .inl ⟨rfl, ?_, ?_⟩
    · intro q hq
      rcases List.mem_append.1 hq with hq | hq
      · exact hpre q hq
      · simp only [List.mem_singleton] at hq
        exact hq ▸ hp
    · simp [hA, hZ]
  · rintro _ ⟨_, rfl⟩
    rw [← hsto]
    first | refine pwp_sr ?_ | refine pwp_regionM ?_
    intro K hK
    simp (disch := first | (refine Ok.mk ?_; (try simp only [Lm, La, Lc, Ln, Lt, Ld, Lr, Li, true_or, or_true, true_and, and_true]); omega) | (simp <;> fail) | skip) [runM_nil, d_b4_b3, Ne.symm d_b4_b3]
    refine hK _ _ ?_
    clear hK K
    refine pwp_ret ⟨.inr rfl, _, _, (by simp (disch := first | (refine Ok.mk ?_; (try simp only [Lm, La, Lc, Ln, Lt, Ld, Lr, Li, true_or, or_true, true_and, and_true]); omega) | (simp <;> fail) | skip) [runM_nil, resL, d_b4_b3, Ne.symm d_b4_b3]; rfl), (.cons _ (.cons _ (.refl _))), by simp (disch := first | (refine Ok.mk ?_; (try simp only [Lm, La, Lc, Ln, Lt, Ld, Lr, Li, true_or, or_true, true_and, and_true]); omega) | (simp <;> fail) | skip) [resV], rfl⟩
  · rintro pre e H' _ _ h
    exact h.elim
theorem open24_ok {s : Nat} {xs : List PV} {o ot : Bool} {b : List Nat} (hx : xs = b.map u8) (hs : s = 1 ∨ b.length = 0) (hw : ∀ x ∈ b, x < 256) (hl : b.length ≤ 1000000) :
    PSpec Try.prog 26 [.lst s xs o, .lst 1 (tbl.map u32) ot] (.tup [bV (opb b).1 true, .bool (opb b).2]) := by
  intro H
  have c := open_ok tbl_length tbl_lt (ot := false) (o := false) hx hs hw (by omega)
  have e : opb b = ((opened tbl b).1, decide ((opened tbl b).2 = 0 ∧ 0 < (opened tbl b).1.length)) := rfl
  rw [e]
  generalize (opened tbl b).1 = B at *
  generalize (opened tbl b).2 = E at *
  refine spec_of t26 (by simp [p26]) ?_
  simp only [p26]
  first | refine pwp_sr ?_ | refine pwp_regionM ?_
  intro K hK
  simp (disch := first | (refine Ok.mk ?_; (try simp only [Lm, La, Lc, Ln, Lt, Ld, Lr, Li, true_or, or_true, true_and, and_true]); omega) | (simp <;> fail) | skip) [runM_nil]
  refine hK _ _ ?_
  clear hK K
  first | refine pwp_sr ?_ | refine pwp_regionM ?_
  intro K hK
  simp (disch := first | (refine Ok.mk ?_; (try simp only [Lm, La, Lc, Ln, Lt, Ld, Lr, Li, true_or, or_true, true_and, and_true]); omega) | (simp <;> fail) | skip) [runM_nil]
  refine useP (c) ?_
  simp (disch := first | (refine Ok.mk ?_; (try simp only [Lm, La, Lc, Ln, Lt, Ld, Lr, Li, true_or, or_true, true_and, and_true]); omega) | (simp <;> fail) | skip) [runM_nil]
  refine hK _ _ ?_
  clear hK K
  rcases Nat.eq_zero_or_pos E with h0 | h0
  · subst h0
    first | refine pwp_sr ?_ | refine pwp_regionM ?_
    intro K hK
    simp (disch := first | (refine Ok.mk ?_; (try simp only [Lm, La, Lc, Ln, Lt, Ld, Lr, Li, true_or, or_true, true_and, and_true]); omega) | (simp <;> fail) | skip) [runM_nil]
    refine hK _ _ ?_
    clear hK K
    refine pwp_ret ⟨.inr rfl, _, _, (by simp (disch := first | (refine Ok.mk ?_; (try simp only [Lm, La, Lc, Ln, Lt, Ld, Lr, Li, true_or, or_true, true_and, and_true]); omega) | (simp <;> fail) | skip) [runM_nil, resL]; rfl), .refl _, by simp (disch := first | (refine Ok.mk ?_; (try simp only [Lm, La, Lc, Ln, Lt, Ld, Lr, Li, true_or, or_true, true_and, and_true]); omega) | (simp <;> fail) | skip) [resV], rfl⟩
  · have h1 : ¬ E = 0 := by omega
    first | refine pwp_sr ?_ | refine pwp_regionM ?_
    intro K hK
    simp (disch := first | (refine Ok.mk ?_; (try simp only [Lm, La, Lc, Ln, Lt, Ld, Lr, Li, true_or, or_true, true_and, and_true]); omega) | (simp <;> fail) | skip) [runM_nil, h1]
    refine hK _ _ ?_
    clear hK K
    refine pwp_ret ⟨.inr rfl, _, _, (by simp (disch := first | (refine Ok.mk ?_; (try simp only [Lm, La, Lc, Ln, Lt, Ld, Lr, Li, true_or, or_true, true_and, and_true]); omega) | (simp <;> fail) | skip) [runM_nil, resL, h1]; rfl), .refl _, by simp (disch := first | (refine Ok.mk ?_; (try simp only [Lm, La, Lc, Ln, Lt, Ld, Lr, Li, true_or, or_true, true_and, and_true]); omega) | (simp <;> fail) | skip) [resV, h1], rfl⟩
theorem load_ok {s : Nat} {xs : List PV} {o : Bool} {b : List Nat} (hx : xs = b.map u8) (hs : s = 1 ∨ b.length = 0) (hw : ∀ x ∈ b, x < 256) (hl : b.length ≤ 1000000) :
    PSpec Try.prog 21 [.lst s xs o] (.tup [bV (loa b).1 false, .int .i64 ((loa b).2 : Nat)]) := by
  intro H
  have hit := chunkB_iter (o := false) hx hs 68 (by omega) (by omega) (by omega)
  rw [chunksP_rws] at hit
  have hro : ∀ p ∈ rws 68 b, (∀ x ∈ p, x < 256) ∧ p.length ≤ 68 := fun p hp => by
    obtain ⟨j, hj, rfl⟩ := rws_mem (by omega) hp
    exact ⟨ck_lt hw j, by rw [ck_length]; omega⟩
  have hopl : ∀ p ∈ rws 68 b, (opb p).1.length ≤ 64 := fun p hp => by
    have h1 := opened_length p
    have h2 := (hro p hp).2
    show (opened tbl p).1.length ≤ 64
    omega
  have hloa : loa b = if (rws 68 b).all (fun p => (opb p).2) then ((rws 68 b).flatMap (fun p => (opb p).1), 0) else ([], 16) := rfl
  have hsl : ∀ pre : List (List Nat), (∀ p ∈ pre, p ∈ rws 68 b) → pre.length < (rws 68 b).length → (pre.flatMap (fun p => (opb p).1)).length ≤ 100000000 := fun pre hp h => by
    have h1 := flat_len_le (fun p => (opb p).1) 64 pre fun p hq => hopl p (hp p hq)
    rw [rws_count] at h
    omega
  generalize rws 68 b = R at *
  generalize loa b = S at *
  refine spec_ofU t21l (by simp [p21l]) ?_
  simp only [p21l]
  first | refine pwp_sr ?_ | refine pwp_regionM ?_
  intro K hK
  simp (disch := first | (refine Ok.mk ?_; (try simp only [Lm, La, Lc, Ln, Lt, Ld, Lr, Li, true_or, or_true, true_and, and_true]); omega) | (simp <;> fail) | skip) [runM_nil]
  intro b2 h_b2
  try simp (disch := first | (refine Ok.mk ?_; (try simp only [Lm, La, Lc, Ln, Lt, Ld, Lr, Li, true_or, or_true, true_and, and_true]); omega) | (simp <;> fail) | skip) [runM_nil]
  intro b3 h_b3
  have d_b3_b2 : ¬ b2 = b3 := fun e => by subst e; simp [hget] at h_b3
  try simp (disch := first | (refine Ok.mk ?_; (try simp only [Lm, La, Lc, Ln, Lt, Ld, Lr, Li, true_or, or_true, true_and, and_true]); omega) | (simp <;> fail) | skip) [runM_nil, d_b3_b2, Ne.symm d_b3_b2]
  refine hK _ _ ?_
  clear hK K
  first | refine pwp_sr ?_ | refine pwp_regionM ?_
  intro K hK
  simp (disch := first | (refine Ok.mk ?_; (try simp only [Lm, La, Lc, Ln, Lt, Ld, Lr, Li, true_or, or_true, true_and, and_true]); omega) | (simp <;> fail) | skip) [runM_nil, d_b3_b2, Ne.symm d_b3_b2]
  intro b4 h_b4
  have d_b4_b2 : ¬ b2 = b4 := fun e => by subst e; simp [hget, d_b3_b2, Ne.symm d_b3_b2] at h_b4
  have d_b4_b3 : ¬ b3 = b4 := fun e => by subst e; simp [hget, d_b3_b2, Ne.symm d_b3_b2] at h_b4
  try simp (disch := first | (refine Ok.mk ?_; (try simp only [Lm, La, Lc, Ln, Lt, Ld, Lr, Li, true_or, or_true, true_and, and_true]); omega) | (simp <;> fail) | skip) [runM_nil, d_b3_b2, Ne.symm d_b3_b2, d_b4_b2, Ne.symm d_b4_b2, d_b4_b3, Ne.symm d_b4_b3]
  refine hK _ _ ?_
  clear hK K
  first | refine pwp_sr ?_ | refine pwp_regionM ?_
  intro K hK
  simp (disch := first | (refine Ok.mk ?_; (try simp only [Lm, La, Lc, Ln, Lt, Ld, Lr, Li, true_or, or_true, true_and, and_true]); omega) | (simp <;> fail) | skip) [runM_nil, d_b3_b2, Ne.symm d_b3_b2, d_b4_b2, Ne.symm d_b4_b2, d_b4_b3, Ne.symm d_b4_b3]
  refine useP (table_ok) ?_
  simp (disch := first | (refine Ok.mk ?_; (try simp only [Lm, La, Lc, Ln, Lt, Ld, Lr, Li, true_or, or_true, true_and, and_true]); omega) | (simp <;> fail) | skip) [runM_nil, d_b3_b2, Ne.symm d_b3_b2, d_b4_b2, Ne.symm d_b4_b2, d_b4_b3, Ne.symm d_b4_b3]
  intro b5 h_b5
  have d_b5_b2 : ¬ b2 = b5 := fun e => by subst e; simp [hget, d_b3_b2, Ne.symm d_b3_b2, d_b4_b2, Ne.symm d_b4_b2, d_b4_b3, Ne.symm d_b4_b3] at h_b5
  have d_b5_b3 : ¬ b3 = b5 := fun e => by subst e; simp [hget, d_b3_b2, Ne.symm d_b3_b2, d_b4_b2, Ne.symm d_b4_b2, d_b4_b3, Ne.symm d_b4_b3] at h_b5
  have d_b5_b4 : ¬ b4 = b5 := fun e => by subst e; simp [hget, d_b3_b2, Ne.symm d_b3_b2, d_b4_b2, Ne.symm d_b4_b2, d_b4_b3, Ne.symm d_b4_b3] at h_b5
  try simp (disch := first | (refine Ok.mk ?_; (try simp only [Lm, La, Lc, Ln, Lt, Ld, Lr, Li, true_or, or_true, true_and, and_true]); omega) | (simp <;> fail) | skip) [runM_nil, d_b3_b2, Ne.symm d_b3_b2, d_b4_b2, Ne.symm d_b4_b2, d_b4_b3, Ne.symm d_b4_b3, d_b5_b2, Ne.symm d_b5_b2, d_b5_b3, Ne.symm d_b5_b3, d_b5_b4, Ne.symm d_b5_b4]
  refine hK _ _ ?_
  clear hK K
  refine pwp_seq ?_
  first | refine pwp_sr ?_ | refine pwp_regionM ?_
  intro K hK
  simp (disch := first | (refine Ok.mk ?_; (try simp only [Lm, La, Lc, Ln, Lt, Ld, Lr, Li, true_or, or_true, true_and, and_true]); omega) | (simp <;> fail) | skip) [runM_nil, d_b3_b2, Ne.symm d_b3_b2, d_b4_b2, Ne.symm d_b4_b2, d_b4_b3, Ne.symm d_b4_b3, d_b5_b2, Ne.symm d_b5_b2, d_b5_b3, Ne.symm d_b5_b3, d_b5_b4, Ne.symm d_b5_b4]
  refine useP (chunk_ok 68 (by omega) (by omega)) ?_
  simp (disch := first | (refine Ok.mk ?_; (try simp only [Lm, La, Lc, Ln, Lt, Ld, Lr, Li, true_or, or_true, true_and, and_true]); omega) | (simp <;> fail) | skip) [runM_nil, d_b3_b2, Ne.symm d_b3_b2, d_b4_b2, Ne.symm d_b4_b2, d_b4_b3, Ne.symm d_b4_b3, d_b5_b2, Ne.symm d_b5_b2, d_b5_b3, Ne.symm d_b5_b3, d_b5_b4, Ne.symm d_b5_b4]
  refine hK _ _ ?_
  clear hK K
  refine pwp_block ?_
  refine pwp_upH (H2 := (b5, [.lst 1 (tbl.map u32) false]) :: (b4, [bV [] true]) :: (b3, [.int .i64 0]) :: (b2, [.lst 0 [] true]) :: H) ⟨rfl, UpL_refl _ _, rfl, ⟨_, [], rfl, ⟨1, [], true, rfl, .inr ⟨rfl, rfl⟩, fun _ => rfl, rfl⟩, rfl⟩, HUp_refl _⟩ ?_
  refine pwp_kept (keep := [2, 3, 4, 5, 11]) (by simp [keepA, getS]; rfl) ?_
  refine pwp_rangeM chV chV_inj R (by simp [runM_nil]) hit (fun a _ => rfl)
    (fun pre H' => (∀ p ∈ pre, p ∈ R ∧ (opb p).2 = true) ∧ H' = (b5, [.lst 1 (tbl.map u32) false]) :: (b4, [bV (pre.flatMap (fun p => (opb p).1)) true]) :: (b3, [.int .i64 0]) :: (b2, [.lst 0 [] true]) :: H)
    (fun pre e H' => e = .ret ∧ (∃ p ∈ pre, p ∈ R ∧ (opb p).2 = false) ∧ ∃ A, H' = (b5, [.lst 1 (tbl.map u32) false]) :: (b4, A) :: (b3, [.int .i64 16]) :: (b2, [.lst 0 [] true]) :: H) ⟨(by simp), by simp⟩ ?_ ?_ ?_
  · rintro pre p _ hp hlt ⟨hpre, rfl⟩
    have hb := hsl pre (fun q hq => (hpre q hq).1) hlt
    obtain ⟨hw2, hl2⟩ := hro p hp
    have hl3 := hopl p hp
    have c := open24_ok (ot := false) (o := false) (s := 1) (xs := p.map u8) rfl (.inl rfl) hw2 (by omega)
    generalize hA : pre.flatMap (fun p => (opb p).1) = A at *
    generalize hZ : (opb p).1 = Z at *
    simp only [setA, chV, lendA, lend]
    first | refine pwp_sr ?_ | refine pwp_regionM ?_
    intro K hK
    simp (disch := first | (refine Ok.mk ?_; (try simp only [Lm, La, Lc, Ln, Lt, Ld, Lr, Li, true_or, or_true, true_and, and_true]); omega) | (simp <;> fail) | skip) [runM_nil, d_b3_b2, Ne.symm d_b3_b2, d_b4_b2, Ne.symm d_b4_b2, d_b4_b3, Ne.symm d_b4_b3, d_b5_b2, Ne.symm d_b5_b2, d_b5_b3, Ne.symm d_b5_b3, d_b5_b4, Ne.symm d_b5_b4]
    refine hK _ _ ?_
    clear hK K
    refine ⟨rfl, ?_⟩
    refine pwp_block ?_
    first | refine pwp_sr ?_ | refine pwp_regionM ?_
    intro K hK
    simp (disch := first | (refine Ok.mk ?_; (try simp only [Lm, La, Lc, Ln, Lt, Ld, Lr, Li, true_or, or_true, true_and, and_true]); omega) | (simp <;> fail) | skip) [runM_nil, d_b3_b2, Ne.symm d_b3_b2, d_b4_b2, Ne.symm d_b4_b2, d_b4_b3, Ne.symm d_b4_b3, d_b5_b2, Ne.symm d_b5_b2, d_b5_b3, Ne.symm d_b5_b3, d_b5_b4, Ne.symm d_b5_b4]
    refine useP (c) ?_
    simp (disch := first | (refine Ok.mk ?_; (try simp only [Lm, La, Lc, Ln, Lt, Ld, Lr, Li, true_or, or_true, true_and, and_true]); omega) | (simp <;> fail) | skip) [runM_nil, d_b3_b2, Ne.symm d_b3_b2, d_b4_b2, Ne.symm d_b4_b2, d_b4_b3, Ne.symm d_b4_b3, d_b5_b2, Ne.symm d_b5_b2, d_b5_b3, Ne.symm d_b5_b3, d_b5_b4, Ne.symm d_b5_b4]
    refine hK _ _ ?_
    clear hK K
    refine pwp_seq ?_
    cases ho : (opb p).2 with
    | true =>
      first | refine pwp_sr ?_ | refine pwp_regionM ?_
      intro K hK
      simp (disch := first | (refine Ok.mk ?_; (try simp only [Lm, La, Lc, Ln, Lt, Ld, Lr, Li, true_or, or_true, true_and, and_true]); omega) | (simp <;> fail) | skip) [runM_nil, ho, d_b3_b2, Ne.symm d_b3_b2, d_b4_b2, Ne.symm d_b4_b2, d_b4_b3, Ne.symm d_b4_b3, d_b5_b2, Ne.symm d_b5_b2, d_b5_b3, Ne.symm d_b5_b3, d_b5_b4, Ne.symm d_b5_b4]
      refine hK _ _ ?_
      clear hK K
      refine pwp_cF (by simp) (pwp_skip ?_)
      first | refine pwp_sr ?_ | refine pwp_regionM ?_
      intro K hK
      simp (disch := first | (refine Ok.mk ?_; (try simp only [Lm, La, Lc, Ln, Lt, Ld, Lr, Li, true_or, or_true, true_and, and_true]); omega) | (simp <;> fail) | skip) [runM_nil, d_b3_b2, Ne.symm d_b3_b2, d_b4_b2, Ne.symm d_b4_b2, d_b4_b3, Ne.symm d_b4_b3, d_b5_b2, Ne.symm d_b5_b2, d_b5_b3, Ne.symm d_b5_b3, d_b5_b4, Ne.symm d_b5_b4]
      refine hK _ _ ?_
      clear hK K
      refine .inl ⟨rfl, ?_, ?_⟩
      · intro q hq
        rcases List.mem_append.1 hq with hq | hq
        · exact hpre q hq
        · simp only [List.mem_singleton] at hq
          exact hq ▸ ⟨hp, ho⟩
      · simp [hA, hZ]
    | false =>
      first | refine pwp_sr ?_ | refine pwp_regionM ?_
      intro K hK
      simp (disch := first | (refine Ok.mk ?_; (try simp only [Lm, La, Lc, Ln, Lt, Ld, Lr, Li, true_or, or_true, true_and, and_true]); omega) | (simp <;> fail) | skip) [runM_nil, ho, d_b3_b2, Ne.symm d_b3_b2, d_b4_b2, Ne.symm d_b4_b2, d_b4_b3, Ne.symm d_b4_b3, d_b5_b2, Ne.symm d_b5_b2, d_b5_b3, Ne.symm d_b5_b3, d_b5_b4, Ne.symm d_b5_b4]
      refine hK _ _ ?_
      clear hK K
      refine pwp_cT (by simp) ?_
      first | refine pwp_sr ?_ | refine pwp_regionM ?_
      intro K hK
      simp (disch := first | (refine Ok.mk ?_; (try simp only [Lm, La, Lc, Ln, Lt, Ld, Lr, Li, true_or, or_true, true_and, and_true]); omega) | (simp <;> fail) | skip) [runM_nil, d_b3_b2, Ne.symm d_b3_b2, d_b4_b2, Ne.symm d_b4_b2, d_b4_b3, Ne.symm d_b4_b3, d_b5_b2, Ne.symm d_b5_b2, d_b5_b3, Ne.symm d_b5_b3, d_b5_b4, Ne.symm d_b5_b4]
      refine hK _ _ ?_
      clear hK K
      refine pwp_ret ?_
      exact .inr ⟨by simp, rfl, ⟨p, by simp, hp, ho⟩, _, rfl⟩
  · rintro _ ⟨hall, rfl⟩
    have ha : R.all (fun p => (opb p).2) = true := List.all_eq_true.2 fun p hp => (hall p hp).2
    rw [if_pos ha] at hloa
    subst hloa
    first | refine pwp_sr ?_ | refine pwp_regionM ?_
    intro K hK
    simp (disch := first | (refine Ok.mk ?_; (try simp only [Lm, La, Lc, Ln, Lt, Ld, Lr, Li, true_or, or_true, true_and, and_true]); omega) | (simp <;> fail) | skip) [runM_nil, d_b3_b2, Ne.symm d_b3_b2, d_b4_b2, Ne.symm d_b4_b2, d_b4_b3, Ne.symm d_b4_b3, d_b5_b2, Ne.symm d_b5_b2, d_b5_b3, Ne.symm d_b5_b3, d_b5_b4, Ne.symm d_b5_b4]
    refine hK _ _ ?_
    clear hK K
    refine pwp_ret ⟨.inr rfl, _, _, _, (by simp (disch := first | (refine Ok.mk ?_; (try simp only [Lm, La, Lc, Ln, Lt, Ld, Lr, Li, true_or, or_true, true_and, and_true]); omega) | (simp <;> fail) | skip) [runM_nil, resL, d_b3_b2, Ne.symm d_b3_b2, d_b4_b2, Ne.symm d_b4_b2, d_b4_b3, Ne.symm d_b4_b3, d_b5_b2, Ne.symm d_b5_b2, d_b5_b3, Ne.symm d_b5_b3, d_b5_b4, Ne.symm d_b5_b4]; rfl), (.cons _ (.cons _ (.cons _ (.cons _ (.refl _))))), (by simp (disch := first | (refine Ok.mk ?_; (try simp only [Lm, La, Lc, Ln, Lt, Ld, Lr, Li, true_or, or_true, true_and, and_true]); omega) | (simp <;> fail) | skip) [resV]), rfl, rfl⟩
  · rintro pre e H' hpre _ ⟨rfl, ⟨p, hp, hpR, ho⟩, A, rfl⟩
    have ha : ¬ R.all (fun p => (opb p).2) = true := fun h => by
      have := List.all_eq_true.1 h p hpR
      rw [ho] at this
      cases this
    rw [if_neg ha] at hloa
    subst hloa
    refine ⟨.inr rfl, _, _, _, (by simp [runM_nil, resL, Ne.symm d_b3_b2, Ne.symm d_b4_b2, Ne.symm d_b4_b3, Ne.symm d_b5_b2, Ne.symm d_b5_b3, Ne.symm d_b5_b4, d_b3_b2, d_b4_b2, d_b4_b3, d_b5_b2, d_b5_b3, d_b5_b4]; rfl), (.cons _ (.cons _ (.cons _ (.cons _ (.refl _))))), (by simp [resV]), rfl, rfl⟩
end Go.Proofs.Ytkbdlgohmafglaa.E
