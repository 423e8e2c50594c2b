/- Part 1 of the proof of FixedCells: what the program's functions come to. -/
import Derived.KernelRfl
import Derived.ProofKit
import Derived.Shelf.Strings.OnBuilder
import Derived.WalkKit
import Derived.Test.YtjbnomkajfmlpaaL2
import Derived.Test.YtjbnomkajfmlpaaL3
import Derived.Test.YtjbnomkajfmlpaaProg
/- Varints and sums over bytes, in plain terms: no program in sight. -/
namespace Go.Proofs.Ytjbnomkajfmlpaa.E
open Go Go.RowKit
set_option linter.unusedVariables false
set_option linter.unusedSimpArgs false
theorem xor_lt8 {a b : Nat} (ha : a < 256) (hb : b < 256) : a ^^^ b < 256 := Nat.xor_lt_two_pow (n := 8) ha hb
theorem xor_lt32 {a b : Nat} (ha : a < 4294967296) (hb : b < 4294967296) : a ^^^ b < 4294967296 := Nat.xor_lt_two_pow (n := 32) ha hb
theorem ci_length (l : List Nat) : (ci l).length = l.length := List.length_map _
theorem ci_append (a b : List Nat) : ci (a ++ b) = ci a ++ ci b := List.map_append
theorem ci_nil : ci [] = [] := rfl
theorem ci_cons (a : Nat) (l : List Nat) : ci (a :: l) = (a : Int) :: ci l := rfl
theorem ci_take (l : List Nat) (n : Nat) : (ci l).take n = ci (l.take n) := by simp [ci, List.map_take]
theorem ci_drop (l : List Nat) (n : Nat) : (ci l).drop n = ci (l.drop n) := by simp [ci, List.map_drop]
theorem ci_set (l : List Nat) (n x : Nat) : (ci l).set n (x : Int) = ci (l.set n x) := by simp [ci, List.map_set]
theorem ci_inj {a b : List Nat} (h : ci a = ci b) : a = b := by
  have := congrArg (List.map Int.toNat) h
  simpa [ci, List.map_map, Function.comp_def] using this
theorem to_ci {l : List Int} {b : Nat} (h : ∀ x ∈ l, 0 ≤ x ∧ x < (b : Int)) : ∃ m : List Nat, l = ci m ∧ ∀ x ∈ m, x < b := by
  refine ⟨l.map Int.toNat, ?_, ?_⟩
  · simp only [ci, List.map_map]
    conv => lhs; rw [← List.map_id l]
    refine List.map_congr_left (fun x hx => ?_)
    have := h x hx
    simp
    omega
  · intro x hx
    obtain ⟨y, hy, rfl⟩ := List.mem_map.1 hx
    have := h y hy
    omega
theorem getD_lt {l : List Nat} {b i : Nat} (h : ∀ x ∈ l, x < b) (hb : 0 < b) : l.getD i 0 < b := by
  rw [List.getD_eq_getElem?_getD]
  cases hg : l[i]? with
  | none => exact hb
  | some x => exact h x (List.mem_of_getElem? hg)
def vb (n : Nat) : List Nat := if n < 128 then [n] else (n % 128 + 128) :: vb (n / 128)
termination_by n
decreasing_by omega
theorem vb_small {n : Nat} (h : n < 128) : vb n = [n] := by rw [vb, if_pos h]
theorem vb_big {n : Nat} (h : ¬ n < 128) : vb n = (n % 128 + 128) :: vb (n / 128) := by rw [vb, if_neg h]
theorem vb_lt (n : Nat) : ∀ x ∈ vb n, x < 256 := by
  induction n using Nat.strongRecOn with
  | ind n ih =>
    intro x hx
    by_cases h : n < 128
    · rw [vb_small h, List.mem_singleton] at hx; omega
    · rw [vb_big h, List.mem_cons] at hx
      rcases hx with rfl | hx
      · omega
      · exact ih (n / 128) (by omega) x hx
theorem vb_length_pos (n : Nat) : 1 ≤ (vb n).length := by
  by_cases h : n < 128
  · rw [vb_small h]; simp
  · rw [vb_big h]; simp
theorem vb_len_le : ∀ (s n : Nat), 1 ≤ s → n < 128 ^ s → (vb n).length ≤ s
  | 0, n, h, _ => absurd h (by omega)
  | s + 1, n, _, h => by
    by_cases h1 : n < 128
    · rw [vb_small h1]; simp
    · rw [vb_big h1, List.length_cons]
      have hs : 1 ≤ s := by
        rcases Nat.eq_zero_or_pos s with rfl | hs
        · exact absurd (by simpa using h) h1
        · exact hs
      have := vb_len_le s (n / 128) hs (by rw [Nat.pow_succ] at h; exact Nat.div_lt_of_lt_mul (by rw [Nat.mul_comm]; exact h))
      omega
theorem vb_len_ge : ∀ (s n : Nat), 128 ^ s ≤ n → s + 1 ≤ (vb n).length
  | 0, n, _ => vb_length_pos n
  | s + 1, n, h => by
    have hp : 1 ≤ 128 ^ s := Nat.pow_pos (by omega)
    have h1 : ¬ n < 128 := by rw [Nat.pow_succ] at h; omega
    rw [vb_big h1, List.length_cons]
    have := vb_len_ge s (n / 128) (by rw [Nat.pow_succ] at h; exact (Nat.le_div_iff_mul_le (by omega)).2 h)
    omega
theorem vb_length_le10 {n : Nat} (h : n < 18446744073709551616) : (vb n).length ≤ 10 := vb_len_le 10 n (by omega) (Nat.lt_of_lt_of_le h (by decide))
theorem vb_length_mono {n m : Nat} (h : (vb n).length < (vb m).length) : n < m := by
  rcases Nat.lt_or_ge n m with h1 | h1
  · exact h1
  exfalso
  have : ∀ (a b : Nat), b ≤ a → (vb b).length ≤ (vb a).length := by
    intro a
    induction a using Nat.strongRecOn with
    | ind a ih =>
      intro b hb
      by_cases hb1 : b < 128
      · rw [vb_small hb1]; exact vb_length_pos a
      · rw [vb_big hb1, vb_big (show ¬ a < 128 by omega), List.length_cons, List.length_cons]
        exact Nat.succ_le_succ (ih (a / 128) (by omega) (b / 128) (by omega))
  have := this n m h1
  omega
def num : List Nat → Nat
  | [] => 0
  | x :: s => x % 128 + 128 * num s
theorem num_snoc : ∀ (p : List Nat) (x : Nat), num (p ++ [x]) = num p + x % 128 * 128 ^ p.length
  | [], x => by simp [num]
  | y :: p, x => by
    rw [List.cons_append, num, num, num_snoc p x, List.length_cons, Nat.pow_succ, Nat.mul_add, ← Nat.add_assoc, Nat.mul_left_comm, Nat.mul_comm 128 (128 ^ p.length)]
theorem num_lt : ∀ p : List Nat, num p < 128 ^ p.length
  | [] => by simp [num]
  | y :: p => by
    have := num_lt p
    rw [num, List.length_cons, Nat.pow_succ]
    omega
theorem num_vb (n : Nat) : num (vb n) = n := by
  induction n using Nat.strongRecOn with
  | ind n ih =>
    by_cases h : n < 128
    · rw [vb_small h, num, num]; omega
    · rw [vb_big h, num, ih (n / 128) (by omega)]; omega
theorem vb_num : ∀ (q : List Nat) (x : Nat), (∀ y ∈ q, 128 ≤ y ∧ y < 256) → x < 128 → (q = [] ∨ x ≠ 0) → vb (num (q ++ [x])) = q ++ [x]
  | [], x, _, hx, _ => by
    rw [List.nil_append, num, num, show x % 128 + 128 * 0 = x by omega, vb_small hx]
  | y :: q, x, hq, hx, h => by
    have h0 : x ≠ 0 := h.resolve_left (by simp)
    have hy := hq y (List.mem_cons_self ..)
    have hp : 1 ≤ 128 ^ q.length := Nat.pow_pos (by omega)
    have h1 : 1 ≤ num (q ++ [x]) := by
      rw [num_snoc, Nat.mod_eq_of_lt hx]
      have : 1 * 1 ≤ x * 128 ^ q.length := Nat.mul_le_mul (by omega) hp
      omega
    rw [List.cons_append, num, vb_big (by omega)]
    rw [show (y % 128 + 128 * num (q ++ [x])) % 128 + 128 = y by omega, show (y % 128 + 128 * num (q ++ [x])) / 128 = num (q ++ [x]) by omega]
    rw [vb_num q x (fun z hz => hq z (List.mem_cons_of_mem _ hz)) hx (Or.inr h0)]
def lead : List Nat → Nat
  | [] => 0
  | x :: s => if 128 ≤ x then lead s + 1 else 0
theorem lead_le : ∀ s : List Nat, lead s ≤ s.length
  | [] => Nat.le_refl _
  | x :: s => by
    rw [lead]
    split
    · simpa using lead_le s
    · simp
theorem lead_hi : ∀ (s : List Nat) (j : Nat), j < lead s → 128 ≤ s.getD j 0
  | [], j, h => absurd h (by simp [lead])
  | x :: s, 0, h => by
    rw [lead] at h
    split at h
    · assumption
    · omega
  | x :: s, j + 1, h => by
    rw [lead] at h
    split at h
    · simpa using lead_hi s j (by omega)
    · omega
theorem lead_lo : ∀ s : List Nat, lead s < s.length → s.getD (lead s) 0 < 128
  | [], h => absurd h (by simp)
  | x :: s, h => by
    by_cases hx : 128 ≤ x
    · rw [lead, if_pos hx] at h ⊢
      simpa using lead_lo s (by simpa using h)
    · rw [lead, if_neg hx]
      simpa using Nat.lt_of_not_le hx
theorem lead_vb : ∀ (s n : Nat) (r : List Nat), (vb n).length = s → lead (vb n ++ r) + 1 = (vb n).length
  | 0, n, r, h => by have := vb_length_pos n; omega
  | s + 1, n, r, h => by
    by_cases h1 : n < 128
    · rw [vb_small h1]; simp only [List.cons_append, lead, if_neg (show ¬ 128 ≤ n by omega), List.length_cons, List.length_nil]
    · rw [vb_big h1, List.length_cons] at h ⊢
      rw [List.cons_append, lead, if_pos (by omega), lead_vb s (n / 128) r (by omega)]
def vbad (s : List Nat) (i : Nat) : Prop := (s.getD i 0 = 0 ∧ 0 < i) ∨ (i = 9 ∧ 1 < s.getD i 0)
instance (s : List Nat) (i : Nat) : Decidable (vbad s i) := by unfold vbad; infer_instance
def vtake (s : List Nat) : Nat × List Nat × Nat :=
  if 10 ≤ lead s then (0, [], 3) else if lead s = s.length then (0, [], 2) else if vbad s (lead s) then (0, [], 3)
  else (num (s.take (lead s + 1)), s.drop (lead s + 1), 0)
theorem take_snoc {s : List Nat} {i : Nat} (h : i < s.length) : s.take (i + 1) = s.take i ++ [s.getD i 0] := by
  rw [List.take_succ_eq_append_getElem h, List.getD_eq_getElem?_getD, List.getElem?_eq_getElem h]; rfl
theorem take_hi {s : List Nat} {i : Nat} (hs : ∀ x ∈ s, x < 256) (hi : i ≤ lead s) : ∀ y ∈ s.take i, 128 ≤ y ∧ y < 256 := by
  intro y hy
  refine ⟨?_, hs y (List.mem_of_mem_take hy)⟩
  obtain ⟨j, hj, rfl⟩ := List.mem_iff_getElem.1 hy
  rw [List.length_take] at hj
  have := lead_hi s j (by omega)
  rw [List.getD_eq_getElem?_getD, List.getElem?_eq_getElem (by omega)] at this
  rw [List.getElem_take]
  exact this
theorem canon {s : List Nat} (hs : ∀ x ∈ s, x < 256) (h10 : lead s < 10) (hl : lead s < s.length) (hb : ¬ vbad s (lead s)) :
    num (s.take (lead s + 1)) < 18446744073709551616 ∧ vb (num (s.take (lead s + 1))) = s.take (lead s + 1) := by
  have hx := lead_lo s hl
  have hn := num_lt (s.take (lead s))
  rw [List.length_take, Nat.min_eq_left (by omega)] at hn
  unfold vbad at hb
  refine ⟨?_, ?_⟩
  · rw [take_snoc hl, num_snoc, List.length_take, Nat.min_eq_left (by omega), Nat.mod_eq_of_lt hx]
    rcases Nat.lt_or_ge (lead s) 9 with h9 | h9
    · have h3 : (128 : Nat) ^ (lead s) ≤ 128 ^ 8 := Nat.pow_le_pow_right (by omega) (by omega)
      have h4 : s.getD (lead s) 0 * 128 ^ (lead s) ≤ 127 * 128 ^ 8 := Nat.mul_le_mul (by omega) h3
      omega
    · have h9' : lead s = 9 := by omega
      have h5 : s.getD (lead s) 0 ≤ 1 := by omega
      have h4 : s.getD (lead s) 0 * 128 ^ (lead s) ≤ 1 * 128 ^ 9 := Nat.mul_le_mul h5 (by rw [h9']; exact Nat.le_refl _)
      rw [h9'] at hn h4 ⊢
      omega
  · rw [take_snoc hl]
    refine vb_num _ _ (take_hi hs (Nat.le_refl _)) hx ?_
    by_cases h0 : lead s = 0
    · left; rw [h0]; rfl
    · right; omega
theorem not_canon {s : List Nat} (h10 : lead s < 10) (hl : lead s < s.length) (hb : vbad s (lead s)) :
    vb (num (s.take (lead s + 1)) % 18446744073709551616) ≠ s.take (lead s + 1) := by
  intro h
  have hx := lead_lo s hl
  have e := congrArg num h
  rw [num_vb] at e
  have hlen := congrArg List.length h
  rw [List.length_take, Nat.min_eq_left (by omega)] at hlen
  rcases hb with ⟨h0, hi⟩ | ⟨h9, h1⟩
  · have h2 : num (s.take (lead s + 1)) < 128 ^ lead s := by
      rw [take_snoc hl, h0, num_snoc]
      have := num_lt (s.take (lead s))
      rw [List.length_take, Nat.min_eq_left (by omega)] at this
      simpa using this
    rw [← e] at h2
    have := vb_len_le (lead s) _ hi h2
    omega
  · have h2 : 2 * 128 ^ 9 ≤ num (s.take (lead s + 1)) := by
      rw [take_snoc hl, num_snoc, List.length_take, Nat.min_eq_left (by omega), Nat.mod_eq_of_lt hx, h9]
      have : 2 * 128 ^ 9 ≤ s.getD 9 0 * 128 ^ 9 := Nat.mul_le_mul (by rw [h9] at h1; omega) (Nat.le_refl _)
      omega
    have h3 : num (s.take (lead s + 1)) % 18446744073709551616 < 18446744073709551616 := Nat.mod_lt _ (by omega)
    omega
theorem vtake_vb {n : Nat} (h : n < 18446744073709551616) (r : List Nat) : vtake (vb n ++ r) = (n, r, 0) := by
  have hl := lead_vb _ n r rfl
  have h10 := vb_length_le10 h
  have hp := vb_length_pos n
  have e1 : (vb n ++ r).take (lead (vb n ++ r) + 1) = vb n := by rw [hl, List.take_left]
  have hlt : lead (vb n ++ r) < (vb n ++ r).length := by rw [List.length_append]; omega
  unfold vtake
  rw [if_neg (by omega), if_neg (by omega), if_neg, hl, List.take_left, List.drop_left, num_vb]
  intro hb
  refine not_canon (by omega) hlt hb ?_
  rw [e1, num_vb, Nat.mod_eq_of_lt h]
theorem vtake_ok {s : List Nat} (hs : ∀ x ∈ s, x < 256) (h : (vtake s).2.2 = 0) : (vtake s).1 < 18446744073709551616 ∧ vb (vtake s).1 ++ (vtake s).2.1 = s := by
  unfold vtake at h ⊢
  by_cases h1 : 10 ≤ lead s
  · rw [if_pos h1] at h; exact absurd h (by simp)
  rw [if_neg h1] at h ⊢
  by_cases h2 : lead s = s.length
  · rw [if_pos h2] at h; exact absurd h (by simp)
  rw [if_neg h2] at h ⊢
  by_cases h3 : vbad s (lead s)
  · rw [if_pos h3] at h; exact absurd h (by simp)
  rw [if_neg h3]
  obtain ⟨c1, c2⟩ := canon hs (by omega) (Nat.lt_of_le_of_ne (lead_le s) h2) h3
  refine ⟨c1, ?_⟩
  rw [c2, List.take_append_drop]
theorem vtake_rest {s : List Nat} : (vtake s).2.1.length ≤ s.length ∧ ∀ x ∈ (vtake s).2.1, x ∈ s := by
  unfold vtake
  split
  · simp
  split
  · simp
  split
  · simp
  · refine ⟨by simp, fun x hx => List.mem_of_mem_drop hx⟩
theorem vtake_lt {s : List Nat} (hs : ∀ x ∈ s, x < 256) : (vtake s).1 < 18446744073709551616 := by
  unfold vtake
  split
  · simp
  split
  · simp
  split
  · simp
  · have := lead_le s
    exact (canon hs (by omega) (by omega) (by assumption)).1
def isLen (n l : Nat) : Prop := n < 2 ^ l ∧ (l = 0 ∨ 2 ^ (l - 1) ≤ n)
instance (n l : Nat) : Decidable (isLen n l) := by unfold isLen; infer_instance
theorem isLen_up {n l m : Nat} (hn : 2 ^ m ≤ n) (h : isLen (n / 2 ^ m) l) : isLen n (l + m) := by
  obtain ⟨h1, h2⟩ := h
  have hp : 0 < 2 ^ m := Nat.two_pow_pos m
  have hq : 1 ≤ n / 2 ^ m := (Nat.le_div_iff_mul_le hp).2 (by omega)
  have hl : l ≠ 0 := by
    intro h0
    rw [h0] at h1
    omega
  refine ⟨?_, Or.inr ?_⟩
  · rw [Nat.pow_add]; exact (Nat.div_lt_iff_lt_mul hp).1 h1
  · have h3 := h2.resolve_left hl
    rw [show l + m - 1 = (l - 1) + m by omega, Nat.pow_add]
    exact (Nat.le_div_iff_mul_le hp).1 h3
theorem isLen_vb {n l : Nat} (h : isLen n l) : ((vb n).length : Int) = if 1 < (l + 6) / 7 then (((l + 6) / 7 : Nat) : Int) else 1 := by
  obtain ⟨h1, h2⟩ := h
  have hle : n < 128 ^ ((l + 6) / 7) := by
    rw [show (128 : Nat) = 2 ^ 7 from rfl, ← Nat.pow_mul]
    exact Nat.lt_of_lt_of_le h1 (Nat.pow_le_pow_right (by omega) (by omega))
  split
  · next hs =>
    have hge : 128 ^ ((l + 6) / 7 - 1) ≤ n := by
      rw [show (128 : Nat) = 2 ^ 7 from rfl, ← Nat.pow_mul]
      exact Nat.le_trans (Nat.pow_le_pow_right (by omega) (by omega)) (h2.resolve_left (by omega))
    have a := vb_len_le _ n (by omega) hle
    have b := vb_len_ge _ n hge
    omega
  · next hs =>
    have h128 : n < 128 := by
      refine Nat.lt_of_lt_of_le hle ?_
      exact Nat.le_trans (Nat.pow_le_pow_right (by omega) (show (l + 6) / 7 ≤ 1 by omega)) (by simp)
    rw [vb_small h128]; rfl
def stp (c : Nat) : Nat := if c % 2 = 1 then (c / 2) ^^^ 3988292384 else c / 2
def ent (i : Nat) : Nat := stp (stp (stp (stp (stp (stp (stp (stp i)))))))
def tbl : List Nat := (List.range 256).map ent
def mor (t : List Nat) : Nat → List Nat → Nat
  | c, [] => c
  | c, x :: b => mor t (t.getD ((c % 256) ^^^ x) 0 ^^^ (c / 256)) b
def csum (t b : List Nat) : Nat := mor t 4294967295 b ^^^ 4294967295
theorem tbl_length : tbl.length = 256 := by simp [tbl]
theorem tbl_lt : ∀ x ∈ tbl, x < 4294967296 := by decide +kernel
theorem nxt_lt {t : List Nat} (ht : ∀ x ∈ t, x < 4294967296) (c x : Nat) (hc : c < 4294967296) : t.getD ((c % 256) ^^^ x) 0 ^^^ (c / 256) < 4294967296 :=
  xor_lt32 (getD_lt ht (by omega)) (by omega)
theorem mor_lt {t : List Nat} (ht : ∀ x ∈ t, x < 4294967296) : ∀ (b : List Nat) (c : Nat), c < 4294967296 → mor t c b < 4294967296
  | [], c, hc => hc
  | x :: b, c, hc => mor_lt ht b _ (nxt_lt ht c x hc)
theorem mor_append (t : List Nat) : ∀ (a b : List Nat) (c : Nat), mor t c (a ++ b) = mor t (mor t c a) b
  | [], b, c => rfl
  | x :: a, b, c => mor_append t a b _
theorem csum_lt {t : List Nat} (ht : ∀ x ∈ t, x < 4294967296) (b : List Nat) : csum t b < 4294967296 := xor_lt32 (mor_lt ht b _ (by omega)) (by omega)
theorem tbl_at {j : Nat} (h : j < 256) : tbl.getD j 0 = ent j := by
  simp only [tbl, List.getD_eq_getElem?_getD, List.getElem?_map, List.getElem?_range h, Option.map_some, Option.getD_some]
theorem xor_mod256 {c x : Nat} (hx : x < 256) : (c ^^^ x) % 256 = (c % 256) ^^^ x := by
  have := Nat.xor_mod_two_pow (a := c) (b := x) (n := 8)
  rw [show (2 : Nat) ^ 8 = 256 from rfl, Nat.mod_eq_of_lt hx] at this
  exact this
def four (c : Nat) : List Nat := [c % 256, c / 256 % 256, c / 65536 % 256, c / 16777216 % 256]
theorem four_lt (c : Nat) : ∀ x ∈ four c, x < 256 := by
  intro x hx
  simp only [four, List.mem_cons, List.not_mem_nil, or_false] at hx
  omega
theorem four_length (c : Nat) : (four c).length = 4 := rfl
def sealed (t b : List Nat) : List Nat := b ++ four (csum t b)
theorem sealed_length (t b : List Nat) : (sealed t b).length = b.length + 4 := by simp [sealed, four_length]
theorem sealed_lt (t : List Nat) {b : List Nat} (hb : ∀ x ∈ b, x < 256) : ∀ x ∈ sealed t b, x < 256 := by
  intro x hx
  rcases List.mem_append.1 hx with h | h
  · exact hb x h
  · exact four_lt _ x h
def opened (t s : List Nat) : List Nat × Nat := if s.length < 4 then ([], 2) else if four (csum t (s.take (s.length - 4))) = s.drop (s.length - 4) then (s.take (s.length - 4), 0) else ([], 4)
theorem open_sealed (t b : List Nat) : opened t (sealed t b) = (b, 0) := by
  unfold opened
  rw [sealed_length, if_neg (by omega), show b.length + 4 - 4 = b.length by omega]
  unfold sealed
  rw [List.take_left, List.drop_left, if_pos rfl]
/-- The lengths of bytes in bits. -/
def lenL : List Int := [0, 1, 2, 2, 3, 3, 3, 3, 4, 4, 4, 4, 4, 4, 4, 4, 5, 5, 5, 5, 5, 5, 5, 5, 5, 5, 5, 5, 5, 5, 5, 5, 6, 6, 6, 6, 6, 6, 6, 6, 6, 6, 6, 6, 6, 6, 6, 6, 6, 6, 6, 6, 6, 6, 6, 6, 6, 6, 6, 6, 6, 6, 6, 6, 7, 7, 7, 7, 7, 7, 7, 7, 7, 7, 7, 7, 7, 7, 7, 7, 7, 7, 7, 7, 7, 7, 7, 7, 7, 7, 7, 7, 7, 7, 7, 7, 7, 7, 7, 7, 7, 7, 7, 7, 7, 7, 7, 7, 7, 7, 7, 7, 7, 7, 7, 7, 7, 7, 7, 7, 7, 7, 7, 7, 7, 7, 7, 7, 8, 8, 8, 8, 8, 8, 8, 8, 8, 8, 8, 8, 8, 8, 8, 8, 8, 8, 8, 8, 8, 8, 8, 8, 8, 8, 8, 8, 8, 8, 8, 8, 8, 8, 8, 8, 8, 8, 8, 8, 8, 8, 8, 8, 8, 8, 8, 8, 8, 8, 8, 8, 8, 8, 8, 8, 8, 8, 8, 8, 8, 8, 8, 8, 8, 8, 8, 8, 8, 8, 8, 8, 8, 8, 8, 8, 8, 8, 8, 8, 8, 8, 8, 8, 8, 8, 8, 8, 8, 8, 8, 8, 8, 8, 8, 8, 8, 8, 8, 8, 8, 8, 8, 8, 8, 8, 8, 8, 8, 8, 8, 8, 8, 8, 8, 8, 8, 8, 8, 8, 8, 8, 8, 8, 8, 8, 8, 8]
theorem lenL_at : ∀ v ∈ List.range 256, ∃ l ∈ List.range 9, lenL[v]? = some (l : Int) ∧ isLen v l := by decide +kernel
def bl (n : Nat) : Nat := if n = 0 then 0 else bl (n / 2) + 1
termination_by n
decreasing_by omega
theorem isLen_bl (n : Nat) : isLen n (bl n) := by
  induction n using Nat.strongRecOn with
  | ind n ih =>
    by_cases h : n = 0
    · rw [bl, if_pos h, h]; exact ⟨by decide, .inl rfl⟩
    · rw [bl, if_neg h]
      by_cases h1 : n = 1
      · subst h1
        have e : bl (1 / 2) = 0 := by rw [bl]; rfl
        rw [e]; exact ⟨by decide, .inr (by decide)⟩
      · exact isLen_up (m := 1) (by omega) (by simpa using ih (n / 2) (by omega))
theorem isLen_unique {n a b : Nat} (ha : isLen n a) (hb : isLen n b) : a = b := by
  obtain ⟨a1, a2⟩ := ha
  obtain ⟨b1, b2⟩ := hb
  rcases Nat.lt_trichotomy a b with h | h | h
  · have h1 : 2 ^ a ≤ 2 ^ (b - 1) := Nat.pow_le_pow_right (by omega) (by omega)
    have := b2.resolve_left (by omega)
    omega
  · exact h
  · have h1 : 2 ^ b ≤ 2 ^ (a - 1) := Nat.pow_le_pow_right (by omega) (by omega)
    have := a2.resolve_left (by omega)
    omega
def u8 (n : Nat) : PV := .int .u8 n
def u32 (n : Nat) : PV := .int .u32 n
attribute [simp] u8 u32
/-- Bytes. -/
@[simp] abbrev bV (l : List Nat) (o : Bool) : PV := .lst 1 (l.map u8) o
end Go.Proofs.Ytjbnomkajfmlpaa.E
/- The functions of this claim as operations on plain values. -/
namespace Go.Proofs.Ytjbnomkajfmlpaa.E
open Go Go.RowKit Go.Proofs
set_option linter.unusedVariables false
set_option maxRecDepth 100000
def p2 : PFn :=
  ⟨1, [], .region [
     ⟨some 0, none, .callF 1 [] []⟩]⟩
theorem t2 : compF Try.prog {} 2 = some p2 := by kernel_rfl
def p3 : PFn :=
  ⟨38, [.t 4], .seq
    (.region [
      ⟨some 4, none, .mv true (.c (.bool false))⟩])
    (.seq
     (.seq
      (.region [
        ⟨some 9, none, .mv false (.t 0)⟩,
        ⟨some 10, none, .callF 10 [.t 9, .c (.int .i64 120), .c (.int .i64 3000)] []⟩,
        ⟨some 11, none, .un .not (.t 10)⟩])
      (.cond (.t 11)
       (.seq
        (.region [
          ⟨some 12, none, .callF 11 [] []⟩,
          ⟨some 4, none, .mv true (.t 12)⟩])
        .ret)
       .skip))
     (.seq
      (.region [
        ⟨some 14, none, .mv false (.t 0)⟩,
        ⟨some 15, none, .mv false (.t 1)⟩,
        ⟨some 16, none, .callF 12 [.t 14, .t 15] []⟩,
        ⟨some 13, none, .mv true (.t 16)⟩,
        ⟨some 17, none, .ext true (.t 13) 0⟩,
        ⟨some 18, none, .ext false (.t 13) 1⟩,
        ⟨some 5, none, .mv true (.t 17)⟩,
        ⟨some 6, none, .mv true (.t 18)⟩])
      (.seq
       (.region [
         ⟨some 20, none, .mv false (.t 0)⟩,
         ⟨some 21, none, .mv false (.t 1)⟩,
         ⟨some 22, none, .callF 13 [.t 20, .t 21] []⟩,
         ⟨some 19, none, .mv true (.t 22)⟩,
         ⟨some 23, none, .ext true (.t 19) 0⟩,
         ⟨some 24, none, .ext false (.t 19) 1⟩,
         ⟨some 7, none, .mv true (.t 23)⟩,
         ⟨some 8, none, .mv true (.t 24)⟩])
       (.seq
        (.region [
          ⟨some 25, none, .callF 11 [] []⟩,
          ⟨some 26, none, .mv false (.t 25)⟩,
          ⟨some 27, some (26, true), .mv false (.t 5)⟩,
          ⟨some 28, some (26, true), .cvS (.t 27)⟩,
          ⟨some 29, some (26, true), .mv false (.t 7)⟩,
          ⟨some 30, some (26, true), .cvS (.t 29)⟩,
          ⟨some 31, some (26, true), .bin .eql (.t 28) (.t 30)⟩,
          ⟨some 32, none, .pick (.t 26) (.t 31) (.c (.bool false))⟩,
          ⟨some 33, none, .mv false (.t 32)⟩,
          ⟨some 34, some (33, true), .mv false (.t 6)⟩,
          ⟨some 35, some (33, true), .mv false (.t 8)⟩,
          ⟨some 36, some (33, true), .bin .eql (.t 34) (.t 35)⟩,
          ⟨some 37, none, .pick (.t 33) (.t 36) (.c (.bool false))⟩,
          ⟨some 4, none, .mv true (.t 37)⟩])
        .ret))))⟩
theorem t3 : compF Try.prog {} 3 = some p3 := by kernel_rfl
def p4 : PFn :=
  ⟨64, [.t 4], .seq
    (.region [
      ⟨some 4, none, .mv true (.c (.bool false))⟩])
    (.seq
     (.seq
      (.region [
        ⟨some 12, none, .mv false (.t 0)⟩,
        ⟨some 13, none, .len false (.t 12)⟩,
        ⟨some 14, none, .bin .gtr (.t 13) (.c (.int .i64 3000))⟩])
      (.cond (.t 14)
       (.seq
        (.region [
          ⟨some 15, none, .callF 11 [] []⟩,
          ⟨some 4, none, .mv true (.t 15)⟩])
        .ret)
       .skip))
     (.seq
      (.region [
        ⟨some 16, none, .bsl 1 0 false [] [] false⟩,
        ⟨some 17, none, .mv false (.t 0)⟩,
        ⟨some 18, none, .app 1 1 (.t 16) (.t 17)⟩,
        ⟨some 5, none, .mv true (.t 18)⟩])
      (.seq
       (.region [
         ⟨some 20, none, .mv false (.t 5)⟩,
         ⟨some 21, none, .mv false (.t 1)⟩,
         ⟨some 22, none, .callF 14 [.t 20, .t 21] []⟩,
         ⟨some 19, none, .mv true (.t 22)⟩,
         ⟨some 23, none, .ext true (.t 19) 0⟩,
         ⟨some 24, none, .ext false (.t 19) 1⟩,
         ⟨some 25, none, .ext false (.t 19) 2⟩,
         ⟨some 6, none, .mv true (.t 23)⟩,
         ⟨some 7, none, .mv true (.t 24)⟩,
         ⟨some 8, none, .mv true (.t 25)⟩])
       (.seq
        (.region [
          ⟨some 27, none, .mv false (.t 0)⟩,
          ⟨some 28, none, .mv false (.t 1)⟩,
          ⟨some 29, none, .callF 15 [.t 27, .t 28] []⟩,
          ⟨some 26, none, .mv true (.t 29)⟩,
          ⟨some 30, none, .ext true (.t 26) 0⟩,
          ⟨some 31, none, .ext false (.t 26) 1⟩,
          ⟨some 32, none, .ext false (.t 26) 2⟩,
          ⟨some 9, none, .mv true (.t 30)⟩,
          ⟨some 10, none, .mv true (.t 31)⟩,
          ⟨some 11, none, .mv true (.t 32)⟩])
        (.seq
         (.region [
           ⟨some 33, none, .callF 11 [] []⟩,
           ⟨some 34, none, .mv false (.t 33)⟩,
           ⟨some 35, some (34, true), .mv false (.t 6)⟩,
           ⟨some 36, some (34, true), .mv false (.t 9)⟩,
           ⟨some 37, some (34, true), .callF 16 [.t 35, .t 36] []⟩,
           ⟨some 38, none, .pick (.t 34) (.t 37) (.c (.bool false))⟩,
           ⟨some 39, none, .mv false (.t 38)⟩,
           ⟨some 40, some (39, true), .mv false (.t 7)⟩,
           ⟨some 41, some (39, true), .mv false (.t 10)⟩,
           ⟨some 42, some (39, true), .bin .eql (.t 40) (.t 41)⟩,
           ⟨some 43, none, .pick (.t 39) (.t 42) (.c (.bool false))⟩,
           ⟨some 44, none, .mv false (.t 43)⟩,
           ⟨some 45, some (44, true), .mv false (.t 8)⟩,
           ⟨some 46, some (44, true), .mv false (.t 11)⟩,
           ⟨some 47, some (44, true), .bin .eql (.t 45) (.t 46)⟩,
           ⟨some 48, none, .pick (.t 44) (.t 47) (.c (.bool false))⟩,
           ⟨some 49, none, .mv false (.t 48)⟩,
           ⟨some 50, some (49, true), .mv false (.t 5)⟩,
           ⟨some 51, some (49, true), .mv false (.t 1)⟩,
           ⟨some 52, some (49, true), .callF 17 [.t 50, .t 51] []⟩,
           ⟨some 53, some (49, true), .mv false (.t 11)⟩,
           ⟨some 54, some (49, true), .bin .eql (.t 53) (.c (.int .i64 0))⟩,
           ⟨some 55, some (49, true), .binB false (.t 52) (.t 54)⟩,
           ⟨some 56, none, .pick (.t 49) (.t 55) (.c (.bool false))⟩,
           ⟨some 57, none, .mv false (.t 56)⟩,
           ⟨some 58, some (57, true), .mv false (.t 5)⟩,
           ⟨some 59, some (57, true), .cvS (.t 58)⟩,
           ⟨some 60, some (57, true), .mv false (.t 0)⟩,
           ⟨some 61, some (57, true), .cvS (.t 60)⟩,
           ⟨some 62, some (57, true), .bin .eql (.t 59) (.t 61)⟩,
           ⟨some 63, none, .pick (.t 57) (.t 62) (.c (.bool false))⟩,
           ⟨some 4, none, .mv true (.t 63)⟩])
         .ret)))))⟩
theorem t4 : compF Try.prog {} 4 = some p4 := by kernel_rfl
def p5 : PFn :=
  ⟨94, [.t 6], .seq
    (.region [
      ⟨some 6, none, .mv true (.c (.bool false))⟩])
    (.seq
     (.seq
      (.region [
        ⟨some 17, none, .mv false (.t 0)⟩,
        ⟨some 18, none, .callF 10 [.t 17, .c (.int .i64 120), .c (.int .i64 3000)] []⟩,
        ⟨some 19, none, .un .not (.t 18)⟩,
        ⟨some 20, none, .mv false (.t 19)⟩,
        ⟨some 21, some (20, false), .mv false (.t 1)⟩,
        ⟨some 22, some (20, false), .len false (.t 21)⟩,
        ⟨some 23, some (20, false), .bin .gtr (.t 22) (.c (.int .i64 3000))⟩,
        ⟨some 24, none, .pick (.t 20) (.c (.bool true)) (.t 23)⟩])
      (.cond (.t 24)
       (.seq
        (.region [
          ⟨some 25, none, .callF 11 [] []⟩,
          ⟨some 6, none, .mv true (.t 25)⟩])
        .ret)
       .skip))
     (.seq
      (.region [
        ⟨some 27, none, .mv false (.t 0)⟩,
        ⟨some 28, none, .mv false (.t 2)⟩,
        ⟨some 29, none, .callF 12 [.t 27, .t 28] []⟩,
        ⟨some 26, none, .mv true (.t 29)⟩,
        ⟨some 30, none, .ext true (.t 26) 0⟩,
        ⟨some 31, none, .ext false (.t 26) 1⟩,
        ⟨some 7, none, .mv true (.t 30)⟩,
        ⟨some 8, none, .mv true (.t 31)⟩])
      (.seq
       (.seq
        (.region [
          ⟨some 32, none, .mv false (.t 8)⟩,
          ⟨some 33, none, .bin .eql (.t 32) (.c (.int .i64 0))⟩])
        (.cond (.t 33)
         (.seq
          (.region [
            ⟨some 35, none, .mv false (.t 7)⟩,
            ⟨some 36, none, .mv false (.t 2)⟩,
            ⟨some 37, none, .callF 14 [.t 35, .t 36] []⟩,
            ⟨some 34, none, .mv true (.t 37)⟩,
            ⟨some 38, none, .ext true (.t 34) 0⟩,
            ⟨some 39, none, .ext false (.t 34) 1⟩,
            ⟨some 40, none, .ext false (.t 34) 2⟩,
            ⟨some 9, none, .mv true (.t 38)⟩,
            ⟨some 10, none, .mv true (.t 39)⟩,
            ⟨some 11, none, .mv true (.t 40)⟩])
          (.seq
           (.region [
             ⟨some 41, none, .mv false (.t 11)⟩,
             ⟨some 42, none, .bin .neq (.t 41) (.c (.int .i64 0))⟩,
             ⟨some 43, none, .mv false (.t 42)⟩,
             ⟨some 44, some (43, false), .mv false (.t 10)⟩,
             ⟨some 45, some (43, false), .mv false (.t 7)⟩,
             ⟨some 46, some (43, false), .len false (.t 45)⟩,
             ⟨some 47, some (43, false), .bin .neq (.t 44) (.t 46)⟩,
             ⟨some 48, none, .pick (.t 43) (.c (.bool true)) (.t 47)⟩,
             ⟨some 49, none, .mv false (.t 48)⟩,
             ⟨some 50, some (49, false), .mv false (.t 7)⟩,
             ⟨some 51, some (49, false), .mv false (.t 2)⟩,
             ⟨some 52, some (49, false), .callF 17 [.t 50, .t 51] []⟩,
             ⟨some 53, some (49, false), .un .not (.t 52)⟩,
             ⟨some 54, none, .pick (.t 49) (.c (.bool true)) (.t 53)⟩,
             ⟨some 55, none, .mv false (.t 54)⟩,
             ⟨some 56, some (55, false), .mv false (.t 9)⟩,
             ⟨some 57, some (55, false), .callF 19 [.t 56] []⟩,
             ⟨some 58, some (55, false), .mv false (.t 0)⟩,
             ⟨some 59, some (55, false), .callF 18 [.t 57, .t 58] []⟩,
             ⟨some 60, some (55, false), .un .not (.t 59)⟩,
             ⟨some 61, none, .pick (.t 55) (.c (.bool true)) (.t 60)⟩])
           (.cond (.t 61)
            (.seq
             (.region [
               ⟨some 6, none, .mv true (.c (.bool false))⟩])
             .ret)
            .skip)))
         .skip))
       (.seq
        (.region [
          ⟨some 63, none, .mv false (.t 1)⟩,
          ⟨some 64, none, .mv false (.t 2)⟩,
          ⟨some 65, none, .callF 14 [.t 63, .t 64] []⟩,
          ⟨some 62, none, .mv true (.t 65)⟩,
          ⟨some 66, none, .ext true (.t 62) 0⟩,
          ⟨some 67, none, .ext false (.t 62) 1⟩,
          ⟨some 68, none, .ext false (.t 62) 2⟩,
          ⟨some 12, none, .mv true (.t 66)⟩,
          ⟨some 13, none, .mv true (.t 67)⟩,
          ⟨some 14, none, .mv true (.t 68)⟩])
        (.seq
         (.region [
           ⟨some 70, none, .mv false (.t 12)⟩,
           ⟨some 71, none, .callF 19 [.t 70] []⟩,
           ⟨some 72, none, .mv false (.t 2)⟩,
           ⟨some 73, none, .callF 12 [.t 71, .t 72] []⟩,
           ⟨some 69, none, .mv true (.t 73)⟩,
           ⟨some 74, none, .ext true (.t 69) 0⟩,
           ⟨some 75, none, .ext false (.t 69) 1⟩,
           ⟨some 15, none, .mv true (.t 74)⟩,
           ⟨some 16, none, .mv true (.t 75)⟩])
         (.seq
          (.region [
            ⟨some 76, none, .callF 11 [] []⟩,
            ⟨some 77, none, .mv false (.t 76)⟩,
            ⟨some 78, some (77, true), .mv false (.t 1)⟩,
            ⟨some 79, some (77, true), .mv false (.t 2)⟩,
            ⟨some 80, some (77, true), .callF 17 [.t 78, .t 79] []⟩,
            ⟨some 81, some (77, true), .un .not (.t 80)⟩,
            ⟨some 82, some (77, true), .mv false (.t 81)⟩,
            ⟨some 83, some (82, false), .mv false (.t 16)⟩,
            ⟨some 84, some (82, false), .bin .eql (.t 83) (.c (.int .i64 0))⟩,
            ⟨some 85, some (82, false), .mv false (.t 84)⟩,
            ⟨some 86, some (85, true), .mv false (.t 15)⟩,
            ⟨some 87, some (85, true), .cvS (.t 86)⟩,
            ⟨some 88, some (85, true), .mv false (.t 1)⟩,
            ⟨some 89, some (85, true), .cvS (.t 88)⟩,
            ⟨some 90, some (85, true), .bin .eql (.t 87) (.t 89)⟩,
            ⟨some 91, some (82, false), .pick (.t 85) (.t 90) (.c (.bool false))⟩,
            ⟨some 92, some (77, true), .pick (.t 82) (.c (.bool true)) (.t 91)⟩,
            ⟨some 93, none, .pick (.t 77) (.t 92) (.c (.bool false))⟩,
            ⟨some 6, none, .mv true (.t 93)⟩])
          .ret))))))⟩
theorem t5 : compF Try.prog {} 5 = some p5 := by kernel_rfl
def p6 : PFn :=
  ⟨46, [.t 4], .seq
    (.region [
      ⟨some 3, none, .bxI 3 (.t 1)⟩,
      ⟨some 4, none, .mv true (.c (.bool false))⟩])
    (.seq
     (.seq
      (.region [
        ⟨some 9, none, .mv false (.t 0)⟩,
        ⟨some 10, none, .len false (.t 9)⟩,
        ⟨some 11, none, .bin .gtr (.t 10) (.c (.int .i64 3000))⟩])
      (.cond (.t 11)
       (.seq
        (.region [
          ⟨some 12, none, .callF 11 [] []⟩,
          ⟨some 4, none, .mv true (.t 12)⟩])
        .ret)
       .skip))
     (.seq
      (.region [
        ⟨some 14, none, .mv false (.t 0)⟩,
        ⟨some 15, none, .fad 0 (.t 3)⟩,
        ⟨some 16, none, .ld 1 false false (.t 15)⟩,
        ⟨some 17, none, .fad 1 (.t 3)⟩,
        ⟨some 18, none, .ld 1 false false (.t 17)⟩,
        ⟨some 19, none, .fad 2 (.t 3)⟩,
        ⟨some 20, none, .ld 1 false false (.t 19)⟩,
        ⟨some 21, none, .callF 20 [.t 14, .t 16, .t 18, .t 20] []⟩,
        ⟨some 13, none, .mv true (.t 21)⟩,
        ⟨some 22, none, .ext true (.t 13) 0⟩,
        ⟨some 23, none, .ext false (.t 13) 1⟩,
        ⟨some 5, none, .mv true (.t 22)⟩,
        ⟨some 6, none, .mv true (.t 23)⟩])
      (.seq
       (.region [
         ⟨some 25, none, .mv false (.t 0)⟩,
         ⟨some 26, none, .fad 0 (.t 3)⟩,
         ⟨some 27, none, .ld 1 false false (.t 26)⟩,
         ⟨some 28, none, .fad 1 (.t 3)⟩,
         ⟨some 29, none, .ld 1 false false (.t 28)⟩,
         ⟨some 30, none, .fad 2 (.t 3)⟩,
         ⟨some 31, none, .ld 1 false false (.t 30)⟩,
         ⟨some 32, none, .callF 21 [.t 25, .t 27, .t 29, .t 31] []⟩,
         ⟨some 24, none, .mv true (.t 32)⟩,
         ⟨some 33, none, .ext true (.t 24) 0⟩,
         ⟨some 34, none, .ext false (.t 24) 1⟩,
         ⟨some 7, none, .mv true (.t 33)⟩,
         ⟨some 8, none, .mv true (.t 34)⟩])
       (.seq
        (.region [
          ⟨some 35, none, .callF 11 [] []⟩,
          ⟨some 36, none, .mv false (.t 35)⟩,
          ⟨some 37, some (36, true), .mv false (.t 5)⟩,
          ⟨some 38, some (36, true), .mv false (.t 7)⟩,
          ⟨some 39, some (36, true), .callF 18 [.t 37, .t 38] []⟩,
          ⟨some 40, none, .pick (.t 36) (.t 39) (.c (.bool false))⟩,
          ⟨some 41, none, .mv false (.t 40)⟩,
          ⟨some 42, some (41, true), .mv false (.t 6)⟩,
          ⟨some 43, some (41, true), .mv false (.t 8)⟩,
          ⟨some 44, some (41, true), .bin .eql (.t 42) (.t 43)⟩,
          ⟨some 45, none, .pick (.t 41) (.t 44) (.c (.bool false))⟩,
          ⟨some 4, none, .mv true (.t 45)⟩])
        .ret))))⟩
theorem t6 : compF Try.prog { ros := [3] } 6 = some p6 := by kernel_rfl
def p7 : PFn :=
  ⟨104, [.t 6], .seq
    (.region [
      ⟨some 6, none, .mv true (.c (.bool false))⟩])
    (.seq
     (.seq
      (.region [
        ⟨some 16, none, .mv false (.t 0)⟩,
        ⟨some 17, none, .len false (.t 16)⟩,
        ⟨some 18, none, .bin .gtr (.t 17) (.c (.int .i64 3000))⟩,
        ⟨some 19, none, .mv false (.t 18)⟩,
        ⟨some 20, some (19, false), .mv false (.t 1)⟩,
        ⟨some 21, some (19, false), .len false (.t 20)⟩,
        ⟨some 22, some (19, false), .bin .gtr (.t 21) (.c (.int .i64 100))⟩,
        ⟨some 23, none, .pick (.t 19) (.c (.bool true)) (.t 22)⟩,
        ⟨some 24, none, .mv false (.t 23)⟩,
        ⟨some 25, some (24, false), .mv false (.t 2)⟩,
        ⟨some 26, some (24, false), .bin .lss (.t 25) (.c (.int .i64 1))⟩,
        ⟨some 27, none, .pick (.t 24) (.c (.bool true)) (.t 26)⟩,
        ⟨some 28, none, .mv false (.t 27)⟩,
        ⟨some 29, some (28, false), .mv false (.t 2)⟩,
        ⟨some 30, some (28, false), .bin .gtr (.t 29) (.c (.int .i64 1000))⟩,
        ⟨some 31, none, .pick (.t 28) (.c (.bool true)) (.t 30)⟩])
      (.cond (.t 31)
       (.seq
        (.region [
          ⟨some 32, none, .callF 11 [] []⟩,
          ⟨some 6, none, .mv true (.t 32)⟩])
        .ret)
       .skip))
     (.seq
      (.region [
        ⟨some 34, none, .mv false (.t 0)⟩,
        ⟨some 35, none, .mv false (.t 2)⟩,
        ⟨some 36, none, .callF 14 [.t 34, .t 35] []⟩,
        ⟨some 33, none, .mv true (.t 36)⟩,
        ⟨some 37, none, .ext true (.t 33) 0⟩,
        ⟨some 38, none, .ext false (.t 33) 1⟩,
        ⟨some 39, none, .ext false (.t 33) 2⟩,
        ⟨some 7, none, .mv true (.t 37)⟩,
        ⟨some 8, none, .mv true (.t 38)⟩,
        ⟨some 9, none, .mv true (.t 39)⟩])
      (.seq
       (.region [
         ⟨some 40, none, .mv false (.t 0)⟩,
         ⟨some 41, none, .len false (.t 40)⟩,
         ⟨some 42, none, .mv false (.t 1)⟩,
         ⟨some 43, none, .callF 22 [.t 41, .t 42] []⟩,
         ⟨some 10, none, .mv true (.t 43)⟩])
       (.seq
        (.region [
          ⟨some 44, none, .bsl 1 0 false [] [] false⟩,
          ⟨some 11, none, .mv true (.t 44)⟩])
        (.seq
         (.region [
           ⟨some 12, none, .mv true (.c (.bool false))⟩])
         (.seq
          (.seq
           (.region [
             ⟨some 13, none, .mv true (.c (.int .i64 1))⟩])
           (.block 0
            (.loop
             (.seq
              (.seq
               (.region [
                 ⟨some 45, none, .mv false (.t 13)⟩,
                 ⟨some 46, none, .mv false (.t 10)⟩,
                 ⟨some 47, none, .len false (.t 46)⟩,
                 ⟨some 48, none, .bin .lss (.t 45) (.t 47)⟩])
               (.cond (.t 48)
                .skip
                (.exit 0)))
              (.seq
               (.block 1
                (.seq
                 (.draw [
                   ⟨some 52, none, .mv false (.t 0)⟩,
                   ⟨some 53, none, .mv false (.t 10)⟩,
                   ⟨some 54, none, .mv false (.t 13)⟩,
                   ⟨some 55, none, .bin .sub (.t 54) (.c (.int .i64 1))⟩,
                   ⟨some 56, none, .iad 1 (.t 53) (.t 55)⟩,
                   ⟨some 57, none, .ld 1 false false (.t 56)⟩,
                   ⟨some 58, none, .mv false (.t 10)⟩,
                   ⟨some 59, none, .mv false (.t 13)⟩,
                   ⟨some 60, none, .iad 1 (.t 58) (.t 59)⟩,
                   ⟨some 61, none, .ld 1 false false (.t 60)⟩,
                   ⟨some 62, none, .mv false (.t 2)⟩,
                   ⟨some 63, none, .callF 20 [.t 52, .t 57, .t 61, .t 62] []⟩,
                   ⟨some 51, none, .mv true (.t 63)⟩,
                   ⟨some 64, none, .ext true (.t 51) 0⟩,
                   ⟨some 65, none, .ext false (.t 51) 1⟩,
                   ⟨some 14, none, .mv true (.t 64)⟩,
                   ⟨some 15, none, .mv true (.t 65)⟩] [])
                 (.seq
                  (.seq
                   (.region [
                     ⟨some 66, none, .mv false (.t 15)⟩,
                     ⟨some 67, none, .bin .neq (.t 66) (.c (.int .i64 0))⟩,
                     ⟨some 68, none, .mv false (.t 67)⟩,
                     ⟨some 69, some (68, true), .mv false (.t 15)⟩,
                     ⟨some 70, some (68, true), .bin .neq (.t 69) (.c (.int .i64 2))⟩,
                     ⟨some 71, none, .pick (.t 68) (.t 70) (.c (.bool false))⟩])
                   (.cond (.t 71)
                    (.seq
                     (.region [
                       ⟨some 6, none, .mv true (.c (.bool false))⟩])
                     .ret)
                    .skip))
                  (.seq
                   (.region [
                     ⟨some 72, none, .mv false (.t 12)⟩,
                     ⟨some 73, none, .mv false (.t 72)⟩,
                     ⟨some 74, some (73, false), .mv false (.t 15)⟩,
                     ⟨some 75, some (73, false), .bin .neq (.t 74) (.c (.int .i64 0))⟩,
                     ⟨some 76, none, .pick (.t 73) (.c (.bool true)) (.t 75)⟩,
                     ⟨some 12, none, .mv true (.t 76)⟩])
                   (.region [
                     ⟨some 77, none, .mv true (.t 11)⟩,
                     ⟨some 78, none, .mv false (.t 14)⟩,
                     ⟨some 79, none, .app 1 24 (.t 77) (.t 78)⟩,
                     ⟨some 11, none, .mv true (.t 79)⟩])))))
               (.region [
                 ⟨some 49, none, .mv false (.t 13)⟩,
                 ⟨some 50, none, .bin .add (.t 49) (.c (.int .i64 1))⟩,
                 ⟨some 13, none, .mv true (.t 50)⟩]))))))
          (.seq
           (.region [
             ⟨some 80, none, .callF 11 [] []⟩,
             ⟨some 81, none, .mv false (.t 80)⟩,
             ⟨some 82, some (81, true), .mv false (.t 11)⟩,
             ⟨some 83, some (81, true), .mv false (.t 7)⟩,
             ⟨some 84, some (81, true), .callF 19 [.t 83] []⟩,
             ⟨some 85, some (81, true), .callF 18 [.t 82, .t 84] []⟩,
             ⟨some 86, none, .pick (.t 81) (.t 85) (.c (.bool false))⟩,
             ⟨some 87, none, .mv false (.t 86)⟩,
             ⟨some 88, some (87, true), .mv false (.t 12)⟩,
             ⟨some 89, some (87, true), .mv false (.t 9)⟩,
             ⟨some 90, some (87, true), .bin .neq (.t 89) (.c (.int .i64 0))⟩,
             ⟨some 91, some (87, true), .binB false (.t 88) (.t 90)⟩,
             ⟨some 92, none, .pick (.t 87) (.t 91) (.c (.bool false))⟩,
             ⟨some 93, none, .mv false (.t 92)⟩,
             ⟨some 94, some (93, true), .mv false (.t 8)⟩,
             ⟨some 95, some (93, true), .mv false (.t 0)⟩,
             ⟨some 96, some (93, true), .len false (.t 95)⟩,
             ⟨some 97, some (93, true), .mv false (.t 0)⟩,
             ⟨some 98, some (93, true), .len false (.t 97)⟩,
             ⟨some 99, some (93, true), .mv false (.t 2)⟩,
             ⟨some 100, some (93, true), .bin .rem (.t 98) (.t 99)⟩,
             ⟨some 101, some (93, true), .bin .sub (.t 96) (.t 100)⟩,
             ⟨some 102, some (93, true), .bin .eql (.t 94) (.t 101)⟩,
             ⟨some 103, none, .pick (.t 93) (.t 102) (.c (.bool false))⟩,
             ⟨some 6, none, .mv true (.t 103)⟩])
           .ret)))))))⟩
theorem t7 : compF Try.prog {} 7 = some p7 := by kernel_rfl
def p8 : PFn :=
  ⟨160, [.t 4], .seq
    (.region [
      ⟨some 3, none, .bxI 3 (.t 1)⟩,
      ⟨some 4, none, .mv true (.c (.bool false))⟩])
    (.seq
     (.seq
      (.region [
        ⟨some 13, none, .mv false (.t 0)⟩,
        ⟨some 14, none, .len false (.t 13)⟩,
        ⟨some 15, none, .bin .gtr (.t 14) (.c (.int .i64 3000))⟩,
        ⟨some 16, none, .mv false (.t 15)⟩,
        ⟨some 17, some (16, false), .fad 2 (.t 3)⟩,
        ⟨some 18, some (16, false), .ld 1 false false (.t 17)⟩,
        ⟨some 19, some (16, false), .bin .lss (.t 18) (.c (.int .i64 1))⟩,
        ⟨some 20, none, .pick (.t 16) (.c (.bool true)) (.t 19)⟩,
        ⟨some 21, none, .mv false (.t 20)⟩,
        ⟨some 22, some (21, false), .fad 2 (.t 3)⟩,
        ⟨some 23, some (21, false), .ld 1 false false (.t 22)⟩,
        ⟨some 24, some (21, false), .bin .gtr (.t 23) (.c (.int .i64 1000))⟩,
        ⟨some 25, none, .pick (.t 21) (.c (.bool true)) (.t 24)⟩,
        ⟨some 26, none, .mv false (.t 25)⟩,
        ⟨some 27, some (26, false), .fad 0 (.t 3)⟩,
        ⟨some 28, some (26, false), .ld 1 false false (.t 27)⟩,
        ⟨some 29, some (26, false), .bin .lss (.t 28) (.c (.int .i64 0))⟩,
        ⟨some 30, none, .pick (.t 26) (.c (.bool true)) (.t 29)⟩,
        ⟨some 31, none, .mv false (.t 30)⟩,
        ⟨some 32, some (31, false), .fad 0 (.t 3)⟩,
        ⟨some 33, some (31, false), .ld 1 false false (.t 32)⟩,
        ⟨some 34, some (31, false), .fad 1 (.t 3)⟩,
        ⟨some 35, some (31, false), .ld 1 false false (.t 34)⟩,
        ⟨some 36, some (31, false), .bin .gtr (.t 33) (.t 35)⟩,
        ⟨some 37, none, .pick (.t 31) (.c (.bool true)) (.t 36)⟩,
        ⟨some 38, none, .mv false (.t 37)⟩,
        ⟨some 39, some (38, false), .fad 1 (.t 3)⟩,
        ⟨some 40, some (38, false), .ld 1 false false (.t 39)⟩,
        ⟨some 41, some (38, false), .mv false (.t 0)⟩,
        ⟨some 42, some (38, false), .len false (.t 41)⟩,
        ⟨some 43, some (38, false), .bin .gtr (.t 40) (.t 42)⟩,
        ⟨some 44, none, .pick (.t 38) (.c (.bool true)) (.t 43)⟩])
      (.cond (.t 44)
       (.seq
        (.region [
          ⟨some 45, none, .callF 11 [] []⟩,
          ⟨some 4, none, .mv true (.t 45)⟩])
        .ret)
       .skip))
     (.seq
      (.region [
        ⟨some 47, none, .mv false (.t 0)⟩,
        ⟨some 48, none, .fad 2 (.t 3)⟩,
        ⟨some 49, none, .ld 1 false false (.t 48)⟩,
        ⟨some 50, none, .callF 14 [.t 47, .t 49] []⟩,
        ⟨some 46, none, .mv true (.t 50)⟩,
        ⟨some 51, none, .ext true (.t 46) 0⟩,
        ⟨some 52, none, .ext false (.t 46) 1⟩,
        ⟨some 53, none, .ext false (.t 46) 2⟩,
        ⟨some 5, none, .mv true (.t 51)⟩,
        ⟨some 6, none, .mv true (.t 52)⟩,
        ⟨some 7, none, .mv true (.t 53)⟩])
      (.seq
       (.region [
         ⟨some 8, none, .mv true (.c (.int .i64 0))⟩])
       (.seq
        (.seq
         (.region [
           ⟨some 9, none, .mv true (.c (.int .i64 0))⟩])
         (.block 0
          (.loop
           (.seq
            (.seq
             (.region [
               ⟨some 54, none, .mv false (.t 9)⟩,
               ⟨some 55, none, .mv false (.t 5)⟩,
               ⟨some 56, none, .len false (.t 55)⟩,
               ⟨some 57, none, .bin .lss (.t 54) (.t 56)⟩])
             (.cond (.t 57)
              .skip
              (.exit 0)))
            (.seq
             (.block 1
              (.seq
               (.region [
                 ⟨some 60, none, .mv false (.t 9)⟩,
                 ⟨some 61, none, .fad 2 (.t 3)⟩,
                 ⟨some 62, none, .ld 1 false false (.t 61)⟩,
                 ⟨some 63, none, .bin .mul (.t 60) (.t 62)⟩,
                 ⟨some 10, none, .mv true (.t 63)⟩])
               (.seq
                (.seq
                 (.draw [
                   ⟨some 64, none, .mv false (.t 5)⟩,
                   ⟨some 65, none, .mv false (.t 9)⟩,
                   ⟨some 66, none, .iad 2 (.t 64) (.t 65)⟩,
                   ⟨some 67, none, .fad 0 (.t 66)⟩,
                   ⟨some 68, none, .ld 1 false false (.t 67)⟩,
                   ⟨some 69, none, .mv false (.t 10)⟩,
                   ⟨some 70, none, .bin .neq (.t 68) (.t 69)⟩,
                   ⟨some 71, none, .mv false (.t 70)⟩,
                   ⟨some 72, some (71, false), .mv false (.t 5)⟩,
                   ⟨some 73, some (71, false), .mv false (.t 9)⟩,
                   ⟨some 74, some (71, false), .iad 2 (.t 72) (.t 73)⟩,
                   ⟨some 75, some (71, false), .fad 1 (.t 74)⟩,
                   ⟨some 76, some (71, false), .ld 1 false false (.t 75)⟩,
                   ⟨some 77, some (71, false), .len false (.t 76)⟩,
                   ⟨some 78, some (71, false), .bin .neq (.t 77) (.c (.int .i64 1))⟩,
                   ⟨some 79, none, .pick (.t 71) (.c (.bool true)) (.t 78)⟩,
                   ⟨some 80, none, .mv false (.t 79)⟩,
                   ⟨some 81, some (80, false), .mv false (.t 5)⟩,
                   ⟨some 82, some (80, false), .mv false (.t 9)⟩,
                   ⟨some 83, some (80, false), .iad 2 (.t 81) (.t 82)⟩,
                   ⟨some 84, some (80, false), .fad 1 (.t 83)⟩,
                   ⟨some 85, some (80, false), .ld 1 false false (.t 84)⟩,
                   ⟨some 86, some (80, false), .iad 1 (.t 85) (.c (.int .i64 0))⟩,
                   ⟨some 87, some (80, false), .ld 1 false false (.t 86)⟩,
                   ⟨some 88, some (80, false), .len false (.t 87)⟩,
                   ⟨some 89, some (80, false), .bin .neq (.t 88) (.c (.int .i64 1))⟩,
                   ⟨some 90, none, .pick (.t 80) (.c (.bool true)) (.t 89)⟩,
                   ⟨some 91, none, .mv false (.t 90)⟩,
                   ⟨some 92, some (91, false), .mv false (.t 10)⟩,
                   ⟨some 93, some (91, false), .fad 2 (.t 3)⟩,
                   ⟨some 94, some (91, false), .ld 1 false false (.t 93)⟩,
                   ⟨some 95, some (91, false), .bin .add (.t 92) (.t 94)⟩,
                   ⟨some 96, some (91, false), .mv false (.t 0)⟩,
                   ⟨some 97, some (91, false), .len false (.t 96)⟩,
                   ⟨some 98, some (91, false), .bin .gtr (.t 95) (.t 97)⟩,
                   ⟨some 99, none, .pick (.t 91) (.c (.bool true)) (.t 98)⟩,
                   ⟨some 100, none, .mv false (.t 99)⟩,
                   ⟨some 101, some (100, false), .mv false (.t 5)⟩,
                   ⟨some 102, some (100, false), .mv false (.t 9)⟩,
                   ⟨some 103, some (100, false), .iad 2 (.t 101) (.t 102)⟩,
                   ⟨some 104, some (100, false), .fad 1 (.t 103)⟩,
                   ⟨some 105, some (100, false), .ld 1 false false (.t 104)⟩,
                   ⟨some 106, some (100, false), .iad 1 (.t 105) (.c (.int .i64 0))⟩,
                   ⟨some 107, some (100, false), .ld 1 false false (.t 106)⟩,
                   ⟨some 108, some (100, false), .iad 1 (.t 107) (.c (.int .i64 0))⟩,
                   ⟨some 109, some (100, false), .ld 1 false false (.t 108)⟩,
                   ⟨some 110, some (100, false), .mv false (.t 0)⟩,
                   ⟨some 111, some (100, false), .mv false (.t 10)⟩,
                   ⟨some 112, some (100, false), .mv false (.t 10)⟩,
                   ⟨some 113, some (100, false), .fad 2 (.t 3)⟩,
                   ⟨some 114, some (100, false), .ld 1 false false (.t 113)⟩,
                   ⟨some 115, some (100, false), .bin .add (.t 112) (.t 114)⟩,
                   ⟨some 116, some (100, false), .sli 1 (.t 110) (some (.t 111)) (some (.t 115)) none⟩,
                   ⟨some 117, some (100, false), .cvS (.t 116)⟩,
                   ⟨some 118, some (100, false), .bin .neq (.t 109) (.t 117)⟩,
                   ⟨some 119, none, .pick (.t 100) (.c (.bool true)) (.t 118)⟩] [])
                 (.cond (.t 119)
                  (.seq
                   (.region [
                     ⟨some 4, none, .mv true (.c (.bool false))⟩])
                   .ret)
                  .skip))
                (.seq
                 (.region [
                   ⟨some 120, none, .mv false (.t 10)⟩,
                   ⟨some 121, none, .fad 0 (.t 3)⟩,
                   ⟨some 122, none, .ld 1 false false (.t 121)⟩,
                   ⟨some 123, none, .bin .geq (.t 120) (.t 122)⟩,
                   ⟨some 124, none, .mv false (.t 123)⟩,
                   ⟨some 125, some (124, true), .mv false (.t 10)⟩,
                   ⟨some 126, some (124, true), .fad 1 (.t 3)⟩,
                   ⟨some 127, some (124, true), .ld 1 false false (.t 126)⟩,
                   ⟨some 128, some (124, true), .bin .lss (.t 125) (.t 127)⟩,
                   ⟨some 129, none, .pick (.t 124) (.t 128) (.c (.bool false))⟩])
                 (.cond (.t 129)
                  (.region [
                    ⟨some 130, none, .mv false (.t 8)⟩,
                    ⟨some 131, none, .bin .add (.t 130) (.c (.int .i64 1))⟩,
                    ⟨some 8, none, .mv true (.t 131)⟩])
                  .skip)))))
             (.region [
               ⟨some 58, none, .mv false (.t 9)⟩,
               ⟨some 59, none, .bin .add (.t 58) (.c (.int .i64 1))⟩,
               ⟨some 9, none, .mv true (.t 59)⟩]))))))
        (.seq
         (.region [
           ⟨some 133, none, .mv false (.t 0)⟩,
           ⟨some 134, none, .fad 0 (.t 3)⟩,
           ⟨some 135, none, .ld 1 false false (.t 134)⟩,
           ⟨some 136, none, .fad 1 (.t 3)⟩,
           ⟨some 137, none, .ld 1 false false (.t 136)⟩,
           ⟨some 138, none, .fad 2 (.t 3)⟩,
           ⟨some 139, none, .ld 1 false false (.t 138)⟩,
           ⟨some 140, none, .callF 20 [.t 133, .t 135, .t 137, .t 139] []⟩,
           ⟨some 132, none, .mv true (.t 140)⟩,
           ⟨some 141, none, .ext true (.t 132) 0⟩,
           ⟨some 142, none, .ext false (.t 132) 1⟩,
           ⟨some 11, none, .mv true (.t 141)⟩,
           ⟨some 12, none, .mv true (.t 142)⟩])
         (.seq
          (.region [
            ⟨some 143, none, .callF 11 [] []⟩,
            ⟨some 144, none, .mv false (.t 143)⟩,
            ⟨some 145, some (144, true), .mv false (.t 11)⟩,
            ⟨some 146, some (144, true), .len false (.t 145)⟩,
            ⟨some 147, some (144, true), .mv false (.t 8)⟩,
            ⟨some 148, some (144, true), .bin .eql (.t 146) (.t 147)⟩,
            ⟨some 149, none, .pick (.t 144) (.t 148) (.c (.bool false))⟩,
            ⟨some 150, none, .mv false (.t 149)⟩,
            ⟨some 151, some (150, true), .mv false (.t 5)⟩,
            ⟨some 152, some (150, true), .len false (.t 151)⟩,
            ⟨some 153, some (150, true), .mv false (.t 0)⟩,
            ⟨some 154, some (150, true), .len false (.t 153)⟩,
            ⟨some 155, some (150, true), .fad 2 (.t 3)⟩,
            ⟨some 156, some (150, true), .ld 1 false false (.t 155)⟩,
            ⟨some 157, some (150, true), .bin .quo (.t 154) (.t 156)⟩,
            ⟨some 158, some (150, true), .bin .eql (.t 152) (.t 157)⟩,
            ⟨some 159, none, .pick (.t 150) (.t 158) (.c (.bool false))⟩,
            ⟨some 4, none, .mv true (.t 159)⟩])
          .ret))))))⟩
theorem t8 : compF Try.prog { ros := [3] } 8 = some p8 := by kernel_rfl
def p9 : PFn :=
  ⟨96, [.t 6], .seq
    (.region [
      ⟨some 6, none, .mv true (.c (.bool false))⟩])
    (.seq
     (.seq
      (.region [
        ⟨some 17, none, .mv false (.t 0)⟩,
        ⟨some 18, none, .len true (.t 17)⟩,
        ⟨some 19, none, .bin .gtr (.t 18) (.c (.int .i64 3000))⟩,
        ⟨some 20, none, .mv false (.t 19)⟩,
        ⟨some 21, some (20, false), .mv false (.t 1)⟩,
        ⟨some 22, some (20, false), .len false (.t 21)⟩,
        ⟨some 23, some (20, false), .bin .gtr (.t 22) (.c (.int .i64 60))⟩,
        ⟨some 24, none, .pick (.t 20) (.c (.bool true)) (.t 23)⟩,
        ⟨some 25, none, .mv false (.t 24)⟩,
        ⟨some 26, some (25, false), .mv false (.t 2)⟩,
        ⟨some 27, some (25, false), .bsl 1 1 false [.lst 0 [] true] [(0, .t 26)] false⟩,
        ⟨some 28, some (25, false), .callF 10 [.t 27, .c (.int .i64 1), .c (.int .i64 3000)] []⟩,
        ⟨some 29, some (25, false), .un .not (.t 28)⟩,
        ⟨some 30, none, .pick (.t 25) (.c (.bool true)) (.t 29)⟩])
      (.cond (.t 30)
       (.seq
        (.region [
          ⟨some 31, none, .callF 11 [] []⟩,
          ⟨some 6, none, .mv true (.t 31)⟩])
        .ret)
       .skip))
     (.seq
      (.region [
        ⟨some 33, none, .mv false (.t 0)⟩,
        ⟨some 34, none, .mv false (.t 1)⟩,
        ⟨some 35, none, .callF 23 [.t 33, .t 34] []⟩,
        ⟨some 32, none, .mv true (.t 35)⟩,
        ⟨some 36, none, .ext true (.t 32) 0⟩,
        ⟨some 37, none, .ext false (.t 32) 1⟩,
        ⟨some 7, none, .mv true (.t 36)⟩,
        ⟨some 8, none, .mv true (.t 37)⟩])
      (.seq
       (.region [
         ⟨some 39, none, .mv false (.t 0)⟩,
         ⟨some 40, none, .mv false (.t 1)⟩,
         ⟨some 41, none, .callF 24 [.t 39, .t 40] []⟩,
         ⟨some 38, none, .mv true (.t 41)⟩,
         ⟨some 42, none, .ext true (.t 38) 0⟩,
         ⟨some 43, none, .ext false (.t 38) 1⟩,
         ⟨some 9, none, .mv true (.t 42)⟩,
         ⟨some 10, none, .mv true (.t 43)⟩])
       (.seq
        (.region [
          ⟨some 45, none, .mv false (.t 2)⟩,
          ⟨some 46, none, .mv false (.t 1)⟩,
          ⟨some 47, none, .callF 25 [.t 45, .t 46] []⟩,
          ⟨some 44, none, .mv true (.t 47)⟩,
          ⟨some 48, none, .ext false (.t 44) 0⟩,
          ⟨some 49, none, .ext false (.t 44) 1⟩,
          ⟨some 11, none, .mv true (.t 48)⟩,
          ⟨some 12, none, .mv true (.t 49)⟩])
        (.seq
         (.region [
           ⟨some 51, none, .mv false (.t 2)⟩,
           ⟨some 52, none, .mv false (.t 1)⟩,
           ⟨some 53, none, .callF 26 [.t 51, .t 52] []⟩,
           ⟨some 50, none, .mv true (.t 53)⟩,
           ⟨some 54, none, .ext false (.t 50) 0⟩,
           ⟨some 55, none, .ext false (.t 50) 1⟩,
           ⟨some 13, none, .mv true (.t 54)⟩,
           ⟨some 14, none, .mv true (.t 55)⟩])
         (.seq
          (.region [
            ⟨some 57, none, .mv false (.t 7)⟩,
            ⟨some 58, none, .mv false (.t 1)⟩,
            ⟨some 59, none, .callF 25 [.t 57, .t 58] []⟩,
            ⟨some 56, none, .mv true (.t 59)⟩,
            ⟨some 60, none, .ext false (.t 56) 0⟩,
            ⟨some 61, none, .ext false (.t 56) 1⟩,
            ⟨some 15, none, .mv true (.t 60)⟩,
            ⟨some 16, none, .mv true (.t 61)⟩])
          (.seq
           (.region [
             ⟨some 62, none, .callF 11 [] []⟩,
             ⟨some 63, none, .mv false (.t 62)⟩,
             ⟨some 64, some (63, true), .mv false (.t 7)⟩,
             ⟨some 65, some (63, true), .mv false (.t 9)⟩,
             ⟨some 66, some (63, true), .callF 27 [.t 64, .t 65] []⟩,
             ⟨some 67, none, .pick (.t 63) (.t 66) (.c (.bool false))⟩,
             ⟨some 68, none, .mv false (.t 67)⟩,
             ⟨some 69, some (68, true), .mv false (.t 8)⟩,
             ⟨some 70, some (68, true), .mv false (.t 10)⟩,
             ⟨some 71, some (68, true), .bin .eql (.t 69) (.t 70)⟩,
             ⟨some 72, none, .pick (.t 68) (.t 71) (.c (.bool false))⟩,
             ⟨some 73, none, .mv false (.t 72)⟩,
             ⟨some 74, some (73, true), .mv false (.t 11)⟩,
             ⟨some 75, some (73, true), .mv false (.t 13)⟩,
             ⟨some 76, some (73, true), .bin .eql (.t 74) (.t 75)⟩,
             ⟨some 77, none, .pick (.t 73) (.t 76) (.c (.bool false))⟩,
             ⟨some 78, none, .mv false (.t 77)⟩,
             ⟨some 79, some (78, true), .mv false (.t 12)⟩,
             ⟨some 80, some (78, true), .mv false (.t 14)⟩,
             ⟨some 81, some (78, true), .bin .eql (.t 79) (.t 80)⟩,
             ⟨some 82, none, .pick (.t 78) (.t 81) (.c (.bool false))⟩,
             ⟨some 83, none, .mv false (.t 82)⟩,
             ⟨some 84, some (83, true), .mv false (.t 8)⟩,
             ⟨some 85, some (83, true), .bin .neq (.t 84) (.c (.int .i64 0))⟩,
             ⟨some 86, some (83, true), .mv false (.t 85)⟩,
             ⟨some 87, some (86, false), .mv false (.t 16)⟩,
             ⟨some 88, some (86, false), .bin .eql (.t 87) (.c (.int .i64 0))⟩,
             ⟨some 89, some (86, false), .mv false (.t 88)⟩,
             ⟨some 90, some (89, true), .mv false (.t 15)⟩,
             ⟨some 91, some (89, true), .mv false (.t 0)⟩,
             ⟨some 92, some (89, true), .bin .eql (.t 90) (.t 91)⟩,
             ⟨some 93, some (86, false), .pick (.t 89) (.t 92) (.c (.bool false))⟩,
             ⟨some 94, some (83, true), .pick (.t 86) (.c (.bool true)) (.t 93)⟩,
             ⟨some 95, none, .pick (.t 83) (.t 94) (.c (.bool false))⟩,
             ⟨some 6, none, .mv true (.t 95)⟩])
           .ret)))))))⟩
theorem t9 : compF Try.prog {} 9 = some p9 := by kernel_rfl
def p10 : PFn :=
  ⟨43, [.t 6], .seq
    (.region [
      ⟨some 6, none, .mv true (.c (.bool false))⟩])
    (.seq
     (.region [
       ⟨some 7, none, .mv true (.c (.int .i64 0))⟩])
     (.seq
      (.seq
       (.region [
         ⟨some 8, none, .mv true (.c (.int .i64 0))⟩])
       (.block 0
        (.loop
         (.seq
          (.seq
           (.region [
             ⟨some 10, none, .mv false (.t 8)⟩,
             ⟨some 11, none, .mv false (.t 0)⟩,
             ⟨some 12, none, .len false (.t 11)⟩,
             ⟨some 13, none, .bin .lss (.t 10) (.t 12)⟩])
           (.cond (.t 13)
            .skip
            (.exit 0)))
          (.seq
           (.block 1
            (.seq
             (.region [
               ⟨some 9, none, .mv true (.c (.int .i64 0))⟩])
             (.block 2
              (.loop
               (.seq
                (.seq
                 (.region [
                   ⟨some 16, none, .mv false (.t 9)⟩,
                   ⟨some 17, none, .mv false (.t 0)⟩,
                   ⟨some 18, none, .mv false (.t 8)⟩,
                   ⟨some 19, none, .iad 1 (.t 17) (.t 18)⟩,
                   ⟨some 20, none, .ld 1 false false (.t 19)⟩,
                   ⟨some 21, none, .len false (.t 20)⟩,
                   ⟨some 22, none, .bin .lss (.t 16) (.t 21)⟩])
                 (.cond (.t 22)
                  .skip
                  (.exit 2)))
                (.seq
                 (.block 3
                  (.seq
                   (.region [
                     ⟨some 25, none, .mv false (.t 7)⟩,
                     ⟨some 26, none, .bin .add (.t 25) (.c (.int .i64 1))⟩,
                     ⟨some 27, none, .mv false (.t 0)⟩,
                     ⟨some 28, none, .mv false (.t 8)⟩,
                     ⟨some 29, none, .iad 1 (.t 27) (.t 28)⟩,
                     ⟨some 30, none, .ld 1 false false (.t 29)⟩,
                     ⟨some 31, none, .mv false (.t 9)⟩,
                     ⟨some 32, none, .iad 1 (.t 30) (.t 31)⟩,
                     ⟨some 33, none, .ld 1 false false (.t 32)⟩,
                     ⟨some 34, none, .len true (.t 33)⟩,
                     ⟨some 35, none, .bin .add (.t 26) (.t 34)⟩,
                     ⟨some 7, none, .mv true (.t 35)⟩])
                   (.seq
                    (.region [
                      ⟨some 36, none, .mv false (.t 7)⟩,
                      ⟨some 37, none, .mv false (.t 2)⟩,
                      ⟨some 38, none, .bin .gtr (.t 36) (.t 37)⟩])
                    (.cond (.t 38)
                     (.seq
                      (.region [
                        ⟨some 6, none, .mv true (.c (.bool false))⟩])
                      .ret)
                     .skip))))
                 (.region [
                   ⟨some 23, none, .mv false (.t 9)⟩,
                   ⟨some 24, none, .bin .add (.t 23) (.c (.int .i64 1))⟩,
                   ⟨some 9, none, .mv true (.t 24)⟩])))))))
           (.region [
             ⟨some 14, none, .mv false (.t 8)⟩,
             ⟨some 15, none, .bin .add (.t 14) (.c (.int .i64 1))⟩,
             ⟨some 8, none, .mv true (.t 15)⟩]))))))
      (.seq
       (.region [
         ⟨some 39, none, .mv false (.t 0)⟩,
         ⟨some 40, none, .len false (.t 39)⟩,
         ⟨some 41, none, .mv false (.t 1)⟩,
         ⟨some 42, none, .bin .leq (.t 40) (.t 41)⟩,
         ⟨some 6, none, .mv true (.t 42)⟩])
       .ret)))⟩
theorem t10 : compF Try.prog {} 10 = some p10 := by kernel_rfl
def p11 : PFn :=
  ⟨54, [.t 0], .seq
    (.region [
      ⟨some 0, none, .mv true (.c (.bool false))⟩])
    (.seq
     (.region [
       ⟨some 9, none, .nl 1 7 false [.int .u8 0, .int .u8 0, .int .u8 0, .int .u8 0, .int .u8 0, .int .u8 0, .int .u8 0] [(0, .c (.int .u8 97)), (1, .c (.int .u8 98)), (2, .c (.int .u8 99)), (3, .c (.int .u8 100)), (4, .c (.int .u8 101)), (5, .c (.int .u8 102)), (6, .c (.int .u8 103))]⟩,
       ⟨some 10, none, .cvM (.t 9)⟩,
       ⟨some 11, none, .callF 14 [.t 10, .c (.int .i64 3)] []⟩,
       ⟨some 8, none, .mv true (.t 11)⟩,
       ⟨some 12, none, .ext true (.t 8) 0⟩,
       ⟨some 13, none, .ext false (.t 8) 1⟩,
       ⟨some 14, none, .ext false (.t 8) 2⟩,
       ⟨some 1, none, .mv true (.t 12)⟩,
       ⟨some 2, none, .mv true (.t 13)⟩,
       ⟨some 3, none, .mv true (.t 14)⟩])
     (.seq
      (.region [
        ⟨some 16, none, .callF 12 [.c (.lst 0 [] true), .c (.int .i64 0)] []⟩,
        ⟨some 15, none, .mv true (.t 16)⟩,
        ⟨some 17, none, .ext true (.t 15) 0⟩,
        ⟨some 18, none, .ext false (.t 15) 1⟩,
        ⟨some 4, none, .mv true (.t 17)⟩,
        ⟨some 5, none, .mv true (.t 18)⟩])
      (.seq
       (.region [
         ⟨some 20, none, .bsl 1 2 false [.int .i64 0, .int .i64 0] [(0, .c (.int .i64 1)), (1, .c (.int .i64 2))] false⟩,
         ⟨some 21, none, .callF 23 [.c (.str [97, 98, 99]), .t 20] []⟩,
         ⟨some 19, none, .mv true (.t 21)⟩,
         ⟨some 22, none, .ext true (.t 19) 0⟩,
         ⟨some 23, none, .ext false (.t 19) 1⟩,
         ⟨some 6, none, .mv true (.t 22)⟩,
         ⟨some 7, none, .mv true (.t 23)⟩])
       (.seq
        (.region [
          ⟨some 24, none, .mv false (.t 1)⟩,
          ⟨some 25, none, .len false (.t 24)⟩,
          ⟨some 26, none, .bin .eql (.t 25) (.c (.int .i64 2))⟩,
          ⟨some 27, none, .mv false (.t 26)⟩,
          ⟨some 28, some (27, true), .mv false (.t 2)⟩,
          ⟨some 29, some (27, true), .bin .eql (.t 28) (.c (.int .i64 6))⟩,
          ⟨some 30, none, .pick (.t 27) (.t 29) (.c (.bool false))⟩,
          ⟨some 31, none, .mv false (.t 30)⟩,
          ⟨some 32, some (31, true), .mv false (.t 3)⟩,
          ⟨some 33, some (31, true), .bin .eql (.t 32) (.c (.int .i64 2))⟩,
          ⟨some 34, none, .pick (.t 31) (.t 33) (.c (.bool false))⟩,
          ⟨some 35, none, .mv false (.t 34)⟩,
          ⟨some 36, some (35, true), .mv false (.t 5)⟩,
          ⟨some 37, some (35, true), .bin .eql (.t 36) (.c (.int .i64 1))⟩,
          ⟨some 38, none, .pick (.t 35) (.t 37) (.c (.bool false))⟩,
          ⟨some 39, none, .mv false (.t 38)⟩,
          ⟨some 40, some (39, true), .mv false (.t 7)⟩,
          ⟨some 41, some (39, true), .bin .eql (.t 40) (.c (.int .i64 0))⟩,
          ⟨some 42, none, .pick (.t 39) (.t 41) (.c (.bool false))⟩,
          ⟨some 43, none, .mv false (.t 42)⟩,
          ⟨some 44, some (43, true), .mv false (.t 6)⟩,
          ⟨some 45, some (43, true), .len false (.t 44)⟩,
          ⟨some 46, some (43, true), .bin .eql (.t 45) (.c (.int .i64 2))⟩,
          ⟨some 47, none, .pick (.t 43) (.t 46) (.c (.bool false))⟩,
          ⟨some 48, none, .mv false (.t 47)⟩,
          ⟨some 49, some (48, true), .mv false (.t 6)⟩,
          ⟨some 50, some (48, true), .iad 1 (.t 49) (.c (.int .i64 1))⟩,
          ⟨some 51, some (48, true), .ld 1 false false (.t 50)⟩,
          ⟨some 52, some (48, true), .bin .eql (.t 51) (.c (.str [98, 99]))⟩,
          ⟨some 53, none, .pick (.t 48) (.t 52) (.c (.bool false))⟩,
          ⟨some 0, none, .mv true (.t 53)⟩])
        .ret))))⟩
theorem t11 : compF Try.prog {} 11 = some p11 := by kernel_rfl
def p12 : PFn :=
  ⟨36, [.t 4, .t 5], .seq
    (.region [
      ⟨some 4, none, .mv true (.c (.lst 0 [] true))⟩,
      ⟨some 5, none, .mv true (.c (.int .i64 0))⟩])
    (.seq
     (.seq
      (.region [
        ⟨some 9, none, .mv false (.t 1)⟩,
        ⟨some 10, none, .callF 28 [.t 9] []⟩,
        ⟨some 11, none, .un .not (.t 10)⟩])
      (.cond (.t 11)
       (.seq
        (.region [
          ⟨some 4, none, .mv true (.c (.lst 0 [] true))⟩,
          ⟨some 5, none, .mv true (.c (.int .i64 1))⟩])
        .ret)
       .skip))
     (.seq
      (.region [
        ⟨some 6, none, .mv true (.c (.lst 0 [] true))⟩])
      (.seq
       (.seq
        (.region [
          ⟨some 12, none, .mv false (.t 0)⟩,
          ⟨some 13, none, .len false (.t 12)⟩,
          ⟨some 14, none, .mv false (.c (.int .i64 0))⟩])
        (.block 0
         (.loop
          (.seq
           (.region [
             ⟨some 15, none, .bin .lss (.t 14) (.t 13)⟩])
           (.seq
            (.cond (.t 15)
             .skip
             (.exit 0))
            (.seq
             (.block 1
              (.seq
               (.region [
                 ⟨some 16, none, .iad 1 (.t 12) (.t 14)⟩,
                 ⟨some 17, none, .ld 1 false false (.t 16)⟩,
                 ⟨some 8, none, .mv true (.t 17)⟩])
               (.seq
                (.seq
                 (.region [
                   ⟨some 18, none, .mv false (.t 8)⟩,
                   ⟨some 19, none, .len false (.t 18)⟩,
                   ⟨some 20, none, .bin .neq (.t 19) (.c (.int .i64 1))⟩,
                   ⟨some 21, none, .mv false (.t 20)⟩,
                   ⟨some 22, some (21, false), .mv false (.t 8)⟩,
                   ⟨some 23, some (21, false), .iad 1 (.t 22) (.c (.int .i64 0))⟩,
                   ⟨some 24, some (21, false), .ld 1 false false (.t 23)⟩,
                   ⟨some 25, some (21, false), .len true (.t 24)⟩,
                   ⟨some 26, some (21, false), .mv false (.t 1)⟩,
                   ⟨some 27, some (21, false), .bin .neq (.t 25) (.t 26)⟩,
                   ⟨some 28, none, .pick (.t 21) (.c (.bool true)) (.t 27)⟩])
                 (.cond (.t 28)
                  (.seq
                   (.region [
                     ⟨some 4, none, .mv true (.c (.lst 0 [] true))⟩,
                     ⟨some 5, none, .mv true (.c (.int .i64 10))⟩])
                   .ret)
                  .skip))
                (.region [
                  ⟨some 29, none, .mv true (.t 6)⟩,
                  ⟨some 30, none, .mv false (.t 8)⟩,
                  ⟨some 31, none, .iad 1 (.t 30) (.c (.int .i64 0))⟩,
                  ⟨some 32, none, .ld 1 false false (.t 31)⟩,
                  ⟨some 33, none, .app 1 1 (.t 29) (.t 32)⟩,
                  ⟨some 6, none, .mv true (.t 33)⟩]))))
             (.region [
               ⟨some 34, none, .bin .add (.t 14) (.c (.int .i64 1))⟩,
               ⟨some 14, none, .mv false (.t 34)⟩])))))))
       (.seq
        (.region [
          ⟨some 35, none, .mv true (.t 6)⟩,
          ⟨some 4, none, .mv true (.t 35)⟩,
          ⟨some 5, none, .mv true (.c (.int .i64 0))⟩])
        .ret))))⟩
theorem t12 : compF Try.prog {} 12 = some p12 := by kernel_rfl
def p13 : PFn :=
  ⟨44, [.t 4, .t 5], .seq
    (.region [
      ⟨some 4, none, .mv true (.c (.lst 0 [] true))⟩,
      ⟨some 5, none, .mv true (.c (.int .i64 0))⟩])
    (.seq
     (.seq
      (.region [
        ⟨some 8, none, .mv false (.t 1)⟩,
        ⟨some 9, none, .callF 29 [.t 8] []⟩,
        ⟨some 10, none, .un .not (.t 9)⟩])
      (.cond (.t 10)
       (.seq
        (.region [
          ⟨some 4, none, .mv true (.c (.lst 0 [] true))⟩,
          ⟨some 5, none, .mv true (.c (.int .i64 1))⟩])
        .ret)
       .skip))
     (.seq
      (.region [
        ⟨some 11, none, .bsl 1 0 false [] [] false⟩,
        ⟨some 6, none, .mv true (.t 11)⟩])
      (.seq
       (.seq
        (.region [
          ⟨some 7, none, .mv true (.c (.int .i64 0))⟩])
        (.block 0
         (.loop
          (.seq
           (.seq
            (.region [
              ⟨some 12, none, .mv false (.t 7)⟩,
              ⟨some 13, none, .mv false (.t 0)⟩,
              ⟨some 14, none, .len false (.t 13)⟩,
              ⟨some 15, none, .bin .lss (.t 12) (.t 14)⟩])
            (.cond (.t 15)
             .skip
             (.exit 0)))
           (.seq
            (.block 1
             (.seq
              (.seq
               (.region [
                 ⟨some 18, none, .mv false (.t 0)⟩,
                 ⟨some 19, none, .mv false (.t 7)⟩,
                 ⟨some 20, none, .iad 1 (.t 18) (.t 19)⟩,
                 ⟨some 21, none, .ld 1 false false (.t 20)⟩,
                 ⟨some 22, none, .len false (.t 21)⟩,
                 ⟨some 23, none, .bin .neq (.t 22) (.c (.int .i64 1))⟩,
                 ⟨some 24, none, .mv false (.t 23)⟩,
                 ⟨some 25, some (24, false), .mv false (.t 0)⟩,
                 ⟨some 26, some (24, false), .mv false (.t 7)⟩,
                 ⟨some 27, some (24, false), .iad 1 (.t 25) (.t 26)⟩,
                 ⟨some 28, some (24, false), .ld 1 false false (.t 27)⟩,
                 ⟨some 29, some (24, false), .iad 1 (.t 28) (.c (.int .i64 0))⟩,
                 ⟨some 30, some (24, false), .ld 1 false false (.t 29)⟩,
                 ⟨some 31, some (24, false), .len true (.t 30)⟩,
                 ⟨some 32, some (24, false), .mv false (.t 1)⟩,
                 ⟨some 33, some (24, false), .bin .neq (.t 31) (.t 32)⟩,
                 ⟨some 34, none, .pick (.t 24) (.c (.bool true)) (.t 33)⟩])
               (.cond (.t 34)
                (.seq
                 (.region [
                   ⟨some 4, none, .mv true (.c (.lst 0 [] true))⟩,
                   ⟨some 5, none, .mv true (.c (.int .i64 10))⟩])
                 .ret)
                .skip))
              (.region [
                ⟨some 35, none, .mv true (.t 6)⟩,
                ⟨some 36, none, .mv false (.t 0)⟩,
                ⟨some 37, none, .mv false (.t 7)⟩,
                ⟨some 38, none, .iad 1 (.t 36) (.t 37)⟩,
                ⟨some 39, none, .ld 1 false false (.t 38)⟩,
                ⟨some 40, none, .iad 1 (.t 39) (.c (.int .i64 0))⟩,
                ⟨some 41, none, .ld 1 false false (.t 40)⟩,
                ⟨some 42, none, .app 1 1 (.t 35) (.t 41)⟩,
                ⟨some 6, none, .mv true (.t 42)⟩])))
            (.region [
              ⟨some 16, none, .mv false (.t 7)⟩,
              ⟨some 17, none, .bin .add (.t 16) (.c (.int .i64 1))⟩,
              ⟨some 7, none, .mv true (.t 17)⟩]))))))
       (.seq
        (.region [
          ⟨some 43, none, .mv true (.t 6)⟩,
          ⟨some 4, none, .mv true (.t 43)⟩,
          ⟨some 5, none, .mv true (.c (.int .i64 0))⟩])
        .ret))))⟩
theorem t13 : compF Try.prog {} 13 = some p13 := by kernel_rfl
def p14 : PFn :=
  ⟨25, [.t 4, .t 5, .t 6], .seq
    (.region [
      ⟨some 4, none, .mv true (.c (.lst 0 [] true))⟩,
      ⟨some 5, none, .mv true (.c (.int .i64 0))⟩,
      ⟨some 6, none, .mv true (.c (.int .i64 0))⟩])
    (.seq
     (.seq
      (.region [
        ⟨some 9, none, .mv false (.t 1)⟩,
        ⟨some 10, none, .callF 28 [.t 9] []⟩,
        ⟨some 11, none, .un .not (.t 10)⟩])
      (.cond (.t 11)
       (.seq
        (.region [
          ⟨some 4, none, .mv true (.c (.lst 0 [] true))⟩,
          ⟨some 5, none, .mv true (.c (.int .i64 0))⟩,
          ⟨some 6, none, .mv true (.c (.int .i64 1))⟩])
        .ret)
       .skip))
     (.seq
      (.region [
        ⟨some 12, none, .mv false (.t 0)⟩,
        ⟨some 13, none, .mv false (.t 1)⟩,
        ⟨some 14, none, .callF 30 [.t 12, .t 13] []⟩,
        ⟨some 7, none, .mv true (.t 14)⟩])
      (.seq
       (.region [
         ⟨some 8, none, .mv true (.c (.int .i64 0))⟩])
       (.seq
        (.seq
         (.region [
           ⟨some 15, none, .mv false (.t 7)⟩,
           ⟨some 16, none, .mv false (.t 0)⟩,
           ⟨some 17, none, .len false (.t 16)⟩,
           ⟨some 18, none, .bin .lss (.t 15) (.t 17)⟩])
         (.cond (.t 18)
          (.region [
            ⟨some 8, none, .mv true (.c (.int .i64 2))⟩])
          .skip))
        (.seq
         (.region [
           ⟨some 19, none, .mv false (.t 0)⟩,
           ⟨some 20, none, .mv false (.t 7)⟩,
           ⟨some 21, none, .mv false (.t 1)⟩,
           ⟨some 22, none, .callF 31 [.t 19, .c (.int .i64 0), .t 20, .t 21] []⟩,
           ⟨some 23, none, .mv true (.t 7)⟩,
           ⟨some 24, none, .mv true (.t 8)⟩,
           ⟨some 4, none, .mv true (.t 22)⟩,
           ⟨some 5, none, .mv true (.t 23)⟩,
           ⟨some 6, none, .mv true (.t 24)⟩])
         .ret)))))⟩
theorem t14 : compF Try.prog {} 14 = some p14 := by kernel_rfl
def p15 : PFn :=
  ⟨44, [.t 4, .t 5, .t 6], .seq
    (.region [
      ⟨some 4, none, .mv true (.c (.lst 0 [] true))⟩,
      ⟨some 5, none, .mv true (.c (.int .i64 0))⟩,
      ⟨some 6, none, .mv true (.c (.int .i64 0))⟩])
    (.seq
     (.seq
      (.region [
        ⟨some 9, none, .mv false (.t 1)⟩,
        ⟨some 10, none, .callF 29 [.t 9] []⟩,
        ⟨some 11, none, .un .not (.t 10)⟩])
      (.cond (.t 11)
       (.seq
        (.region [
          ⟨some 4, none, .mv true (.c (.lst 0 [] true))⟩,
          ⟨some 5, none, .mv true (.c (.int .i64 0))⟩,
          ⟨some 6, none, .mv true (.c (.int .i64 1))⟩])
        .ret)
       .skip))
     (.seq
      (.region [
        ⟨some 12, none, .bsl 2 0 true [] [] false⟩,
        ⟨some 7, none, .mv true (.t 12)⟩])
      (.seq
       (.region [
         ⟨some 8, none, .mv true (.c (.int .i64 0))⟩])
       (.seq
        (.block 0
         (.loop
          (.seq
           (.seq
            (.region [
              ⟨some 13, none, .mv false (.t 8)⟩,
              ⟨some 14, none, .mv false (.t 1)⟩,
              ⟨some 15, none, .bin .add (.t 13) (.t 14)⟩,
              ⟨some 16, none, .mv false (.t 0)⟩,
              ⟨some 17, none, .len false (.t 16)⟩,
              ⟨some 18, none, .bin .leq (.t 15) (.t 17)⟩])
            (.cond (.t 18)
             .skip
             (.exit 0)))
           (.block 1
            (.seq
             (.region [
               ⟨some 19, none, .mv true (.t 7)⟩,
               ⟨some 20, none, .mv false (.t 8)⟩,
               ⟨some 21, none, .mv false (.t 0)⟩,
               ⟨some 22, none, .mv false (.t 8)⟩,
               ⟨some 23, none, .mv false (.t 8)⟩,
               ⟨some 24, none, .mv false (.t 1)⟩,
               ⟨some 25, none, .bin .add (.t 23) (.t 24)⟩,
               ⟨some 26, none, .sli 1 (.t 21) (some (.t 22)) (some (.t 25)) none⟩,
               ⟨some 27, none, .cvS (.t 26)⟩,
               ⟨some 28, none, .bsl 1 1 false [.str []] [(0, .t 27)] false⟩,
               ⟨some 29, none, .bsl 1 1 false [.lst 0 [] true] [(0, .t 28)] false⟩,
               ⟨some 30, none, .build [.int .i64 0, .lst 0 [] true] [(0, (1, .t 20)), (1, (1, .t 29))]⟩,
               ⟨some 31, none, .bsl 2 1 true [.int .i64 0, .lst 0 [] true] [(0, .t 30)] false⟩,
               ⟨some 32, none, .app 2 32 (.t 19) (.t 31)⟩,
               ⟨some 7, none, .mv true (.t 32)⟩])
             (.region [
               ⟨some 33, none, .mv false (.t 8)⟩,
               ⟨some 34, none, .mv false (.t 1)⟩,
               ⟨some 35, none, .bin .add (.t 33) (.t 34)⟩,
               ⟨some 8, none, .mv true (.t 35)⟩]))))))
        (.seq
         (.seq
          (.region [
            ⟨some 36, none, .mv false (.t 8)⟩,
            ⟨some 37, none, .mv false (.t 0)⟩,
            ⟨some 38, none, .len false (.t 37)⟩,
            ⟨some 39, none, .bin .lss (.t 36) (.t 38)⟩])
          (.cond (.t 39)
           (.seq
            (.region [
              ⟨some 40, none, .mv true (.t 7)⟩,
              ⟨some 41, none, .mv true (.t 8)⟩,
              ⟨some 4, none, .mv true (.t 40)⟩,
              ⟨some 5, none, .mv true (.t 41)⟩,
              ⟨some 6, none, .mv true (.c (.int .i64 2))⟩])
            .ret)
           .skip))
         (.seq
          (.region [
            ⟨some 42, none, .mv true (.t 7)⟩,
            ⟨some 43, none, .mv true (.t 8)⟩,
            ⟨some 4, none, .mv true (.t 42)⟩,
            ⟨some 5, none, .mv true (.t 43)⟩,
            ⟨some 6, none, .mv true (.c (.int .i64 0))⟩])
          .ret))))))⟩
theorem t15 : compF Try.prog {} 15 = some p15 := by kernel_rfl
def p16 : PFn :=
  ⟨42, [.t 4], .seq
    (.region [
      ⟨some 4, none, .mv true (.c (.bool false))⟩])
    (.seq
     (.seq
      (.region [
        ⟨some 6, none, .mv false (.t 0)⟩,
        ⟨some 7, none, .len false (.t 6)⟩,
        ⟨some 8, none, .mv false (.t 1)⟩,
        ⟨some 9, none, .len false (.t 8)⟩,
        ⟨some 10, none, .bin .neq (.t 7) (.t 9)⟩])
      (.cond (.t 10)
       (.seq
        (.region [
          ⟨some 4, none, .mv true (.c (.bool false))⟩])
        .ret)
       .skip))
     (.seq
      (.seq
       (.region [
         ⟨some 5, none, .mv true (.c (.int .i64 0))⟩])
       (.block 0
        (.loop
         (.seq
          (.seq
           (.region [
             ⟨some 11, none, .mv false (.t 5)⟩,
             ⟨some 12, none, .mv false (.t 0)⟩,
             ⟨some 13, none, .len false (.t 12)⟩,
             ⟨some 14, none, .bin .lss (.t 11) (.t 13)⟩])
           (.cond (.t 14)
            .skip
            (.exit 0)))
          (.seq
           (.block 1
            (.seq
             (.draw [
               ⟨some 17, none, .mv false (.t 0)⟩,
               ⟨some 18, none, .mv false (.t 5)⟩,
               ⟨some 19, none, .iad 2 (.t 17) (.t 18)⟩,
               ⟨some 20, none, .fad 0 (.t 19)⟩,
               ⟨some 21, none, .ld 1 false false (.t 20)⟩,
               ⟨some 22, none, .mv false (.t 1)⟩,
               ⟨some 23, none, .mv false (.t 5)⟩,
               ⟨some 24, none, .iad 2 (.t 22) (.t 23)⟩,
               ⟨some 25, none, .fad 0 (.t 24)⟩,
               ⟨some 26, none, .ld 1 false false (.t 25)⟩,
               ⟨some 27, none, .bin .neq (.t 21) (.t 26)⟩,
               ⟨some 28, none, .mv false (.t 27)⟩,
               ⟨some 29, some (28, false), .mv false (.t 0)⟩,
               ⟨some 30, some (28, false), .mv false (.t 5)⟩,
               ⟨some 31, some (28, false), .iad 2 (.t 29) (.t 30)⟩,
               ⟨some 32, some (28, false), .fad 1 (.t 31)⟩,
               ⟨some 33, some (28, false), .ld 1 false false (.t 32)⟩,
               ⟨some 34, some (28, false), .mv false (.t 1)⟩,
               ⟨some 35, some (28, false), .mv false (.t 5)⟩,
               ⟨some 36, some (28, false), .iad 2 (.t 34) (.t 35)⟩,
               ⟨some 37, some (28, false), .fad 1 (.t 36)⟩,
               ⟨some 38, some (28, false), .ld 1 false false (.t 37)⟩,
               ⟨some 39, some (28, false), .callF 18 [.t 33, .t 38] []⟩,
               ⟨some 40, some (28, false), .un .not (.t 39)⟩,
               ⟨some 41, none, .pick (.t 28) (.c (.bool true)) (.t 40)⟩] [])
             (.cond (.t 41)
              (.seq
               (.region [
                 ⟨some 4, none, .mv true (.c (.bool false))⟩])
               .ret)
              .skip)))
           (.region [
             ⟨some 15, none, .mv false (.t 5)⟩,
             ⟨some 16, none, .bin .add (.t 15) (.c (.int .i64 1))⟩,
             ⟨some 5, none, .mv true (.t 16)⟩]))))))
      (.seq
       (.region [
         ⟨some 4, none, .mv true (.c (.bool true))⟩])
       .ret)))⟩
theorem t16 : compF Try.prog {} 16 = some p16 := by kernel_rfl
def p17 : PFn :=
  ⟨15, [.t 4], .seq
    (.region [
      ⟨some 4, none, .mv true (.c (.bool false))⟩])
    (.seq
     (.region [
       ⟨some 5, none, .mv false (.t 1)⟩,
       ⟨some 6, none, .callF 28 [.t 5] []⟩,
       ⟨some 7, none, .mv false (.t 6)⟩,
       ⟨some 8, some (7, true), .mv false (.t 0)⟩,
       ⟨some 9, some (7, true), .mv false (.t 1)⟩,
       ⟨some 10, some (7, true), .callF 30 [.t 8, .t 9] []⟩,
       ⟨some 11, some (7, true), .mv false (.t 0)⟩,
       ⟨some 12, some (7, true), .len false (.t 11)⟩,
       ⟨some 13, some (7, true), .bin .eql (.t 10) (.t 12)⟩,
       ⟨some 14, none, .pick (.t 7) (.t 13) (.c (.bool false))⟩,
       ⟨some 4, none, .mv true (.t 14)⟩])
     .ret)⟩
theorem t17 : compF Try.prog {} 17 = some p17 := by kernel_rfl
def p18 : PFn :=
  ⟨27, [.t 4], .seq
    (.region [
      ⟨some 4, none, .mv true (.c (.bool false))⟩])
    (.seq
     (.seq
      (.region [
        ⟨some 6, none, .mv false (.t 0)⟩,
        ⟨some 7, none, .len false (.t 6)⟩,
        ⟨some 8, none, .mv false (.t 1)⟩,
        ⟨some 9, none, .len false (.t 8)⟩,
        ⟨some 10, none, .bin .neq (.t 7) (.t 9)⟩])
      (.cond (.t 10)
       (.seq
        (.region [
          ⟨some 4, none, .mv true (.c (.bool false))⟩])
        .ret)
       .skip))
     (.seq
      (.seq
       (.region [
         ⟨some 5, none, .mv true (.c (.int .i64 0))⟩])
       (.block 0
        (.loop
         (.seq
          (.seq
           (.region [
             ⟨some 11, none, .mv false (.t 5)⟩,
             ⟨some 12, none, .mv false (.t 0)⟩,
             ⟨some 13, none, .len false (.t 12)⟩,
             ⟨some 14, none, .bin .lss (.t 11) (.t 13)⟩])
           (.cond (.t 14)
            .skip
            (.exit 0)))
          (.seq
           (.block 1
            (.seq
             (.draw [
               ⟨some 17, none, .mv false (.t 0)⟩,
               ⟨some 18, none, .mv false (.t 5)⟩,
               ⟨some 19, none, .iad 1 (.t 17) (.t 18)⟩,
               ⟨some 20, none, .ld 1 false false (.t 19)⟩,
               ⟨some 21, none, .mv false (.t 1)⟩,
               ⟨some 22, none, .mv false (.t 5)⟩,
               ⟨some 23, none, .iad 1 (.t 21) (.t 22)⟩,
               ⟨some 24, none, .ld 1 false false (.t 23)⟩,
               ⟨some 25, none, .callF 27 [.t 20, .t 24] []⟩,
               ⟨some 26, none, .un .not (.t 25)⟩] [])
             (.cond (.t 26)
              (.seq
               (.region [
                 ⟨some 4, none, .mv true (.c (.bool false))⟩])
               .ret)
              .skip)))
           (.region [
             ⟨some 15, none, .mv false (.t 5)⟩,
             ⟨some 16, none, .bin .add (.t 15) (.c (.int .i64 1))⟩,
             ⟨some 5, none, .mv true (.t 16)⟩]))))))
      (.seq
       (.region [
         ⟨some 4, none, .mv true (.c (.bool true))⟩])
       .ret)))⟩
theorem t18 : compF Try.prog {} 18 = some p18 := by kernel_rfl
def p19 : PFn :=
  ⟨20, [.t 2], .seq
    (.region [
      ⟨some 2, none, .mv true (.c (.lst 0 [] true))⟩])
    (.seq
     (.region [
       ⟨some 5, none, .bsl 1 0 false [] [] false⟩,
       ⟨some 3, none, .mv true (.t 5)⟩])
     (.seq
      (.seq
       (.region [
         ⟨some 4, none, .mv true (.c (.int .i64 0))⟩])
       (.block 0
        (.loop
         (.seq
          (.seq
           (.region [
             ⟨some 6, none, .mv false (.t 4)⟩,
             ⟨some 7, none, .mv false (.t 0)⟩,
             ⟨some 8, none, .len false (.t 7)⟩,
             ⟨some 9, none, .bin .lss (.t 6) (.t 8)⟩])
           (.cond (.t 9)
            .skip
            (.exit 0)))
          (.seq
           (.block 1
            (.region [
              ⟨some 12, none, .mv true (.t 3)⟩,
              ⟨some 13, none, .mv false (.t 0)⟩,
              ⟨some 14, none, .mv false (.t 4)⟩,
              ⟨some 15, none, .iad 2 (.t 13) (.t 14)⟩,
              ⟨some 16, none, .fad 1 (.t 15)⟩,
              ⟨some 17, none, .ld 1 false false (.t 16)⟩,
              ⟨some 18, none, .app 1 24 (.t 12) (.t 17)⟩,
              ⟨some 3, none, .mv true (.t 18)⟩]))
           (.region [
             ⟨some 10, none, .mv false (.t 4)⟩,
             ⟨some 11, none, .bin .add (.t 10) (.c (.int .i64 1))⟩,
             ⟨some 4, none, .mv true (.t 11)⟩]))))))
      (.seq
       (.region [
         ⟨some 19, none, .mv true (.t 3)⟩,
         ⟨some 2, none, .mv true (.t 19)⟩])
       .ret)))⟩
theorem t19 : compF Try.prog {} 19 = some p19 := by kernel_rfl
def p20 : PFn :=
  ⟨66, [.t 8, .t 9], .seq
    (.region [
      ⟨some 8, none, .mv true (.c (.lst 0 [] true))⟩,
      ⟨some 9, none, .mv true (.c (.int .i64 0))⟩])
    (.seq
     (.seq
      (.region [
        ⟨some 15, none, .mv false (.t 3)⟩,
        ⟨some 16, none, .callF 28 [.t 15] []⟩,
        ⟨some 17, none, .un .not (.t 16)⟩,
        ⟨some 18, none, .mv false (.t 17)⟩,
        ⟨some 19, some (18, false), .mv false (.t 1)⟩,
        ⟨some 20, some (18, false), .bin .lss (.t 19) (.c (.int .i64 0))⟩,
        ⟨some 21, none, .pick (.t 18) (.c (.bool true)) (.t 20)⟩,
        ⟨some 22, none, .mv false (.t 21)⟩,
        ⟨some 23, some (22, false), .mv false (.t 1)⟩,
        ⟨some 24, some (22, false), .mv false (.t 2)⟩,
        ⟨some 25, some (22, false), .bin .gtr (.t 23) (.t 24)⟩,
        ⟨some 26, none, .pick (.t 22) (.c (.bool true)) (.t 25)⟩,
        ⟨some 27, none, .mv false (.t 26)⟩,
        ⟨some 28, some (27, false), .mv false (.t 2)⟩,
        ⟨some 29, some (27, false), .mv false (.t 0)⟩,
        ⟨some 30, some (27, false), .len false (.t 29)⟩,
        ⟨some 31, some (27, false), .bin .gtr (.t 28) (.t 30)⟩,
        ⟨some 32, none, .pick (.t 27) (.c (.bool true)) (.t 31)⟩])
      (.cond (.t 32)
       (.seq
        (.region [
          ⟨some 8, none, .mv true (.c (.lst 0 [] true))⟩,
          ⟨some 9, none, .mv true (.c (.int .i64 1))⟩])
        .ret)
       .skip))
     (.seq
      (.region [
        ⟨some 33, none, .mv false (.t 0)⟩,
        ⟨some 34, none, .mv false (.t 3)⟩,
        ⟨some 35, none, .callF 30 [.t 33, .t 34] []⟩,
        ⟨some 10, none, .mv true (.t 35)⟩])
      (.seq
       (.region [
         ⟨some 36, none, .mv false (.t 1)⟩,
         ⟨some 37, none, .mv false (.t 3)⟩,
         ⟨some 38, none, .bin .add (.t 36) (.t 37)⟩,
         ⟨some 39, none, .bin .sub (.t 38) (.c (.int .i64 1))⟩,
         ⟨some 40, none, .mv false (.t 3)⟩,
         ⟨some 41, none, .bin .quo (.t 39) (.t 40)⟩,
         ⟨some 42, none, .mv false (.t 3)⟩,
         ⟨some 43, none, .bin .mul (.t 41) (.t 42)⟩,
         ⟨some 11, none, .mv true (.t 43)⟩])
       (.seq
        (.region [
          ⟨some 12, none, .mv true (.c (.lst 0 [] true))⟩])
        (.seq
         (.seq
          (.region [
            ⟨some 44, none, .mv false (.t 0)⟩,
            ⟨some 45, none, .mv false (.t 11)⟩,
            ⟨some 46, none, .mv false (.t 2)⟩,
            ⟨some 47, none, .mv false (.t 10)⟩,
            ⟨some 48, none, .mm false (.t 46) (.t 47)⟩,
            ⟨some 49, none, .mv false (.t 3)⟩,
            ⟨some 50, none, .callF 31 [.t 44, .t 45, .t 48, .t 49] []⟩,
            ⟨some 51, none, .len false (.t 50)⟩,
            ⟨some 52, none, .mv false (.c (.int .i64 0))⟩])
          (.block 0
           (.loop
            (.seq
             (.region [
               ⟨some 53, none, .bin .lss (.t 52) (.t 51)⟩])
             (.seq
              (.cond (.t 53)
               .skip
               (.exit 0))
              (.seq
               (.block 1
                (.seq
                 (.region [
                   ⟨some 54, none, .iad 2 (.t 50) (.t 52)⟩,
                   ⟨some 55, none, .ld 2 true false (.t 54)⟩,
                   ⟨some 14, none, .al [.int .i64 0, .lst 0 [] true]⟩,
                   ⟨none, none, .sto 2 (.t 14) (.t 55)⟩])
                 (.region [
                   ⟨some 56, none, .mv true (.t 12)⟩,
                   ⟨some 57, none, .fad 1 (.t 14)⟩,
                   ⟨some 58, none, .ld 1 false false (.t 57)⟩,
                   ⟨some 59, none, .app 1 24 (.t 56) (.t 58)⟩,
                   ⟨some 12, none, .mv true (.t 59)⟩])))
               (.region [
                 ⟨some 60, none, .bin .add (.t 52) (.c (.int .i64 1))⟩,
                 ⟨some 52, none, .mv false (.t 60)⟩])))))))
         (.seq
          (.seq
           (.region [
             ⟨some 61, none, .mv false (.t 10)⟩,
             ⟨some 62, none, .mv false (.t 2)⟩,
             ⟨some 63, none, .bin .lss (.t 61) (.t 62)⟩])
           (.cond (.t 63)
            (.seq
             (.region [
               ⟨some 64, none, .mv true (.t 12)⟩,
               ⟨some 8, none, .mv true (.t 64)⟩,
               ⟨some 9, none, .mv true (.c (.int .i64 2))⟩])
             .ret)
            .skip))
          (.seq
           (.region [
             ⟨some 65, none, .mv true (.t 12)⟩,
             ⟨some 8, none, .mv true (.t 65)⟩,
             ⟨some 9, none, .mv true (.c (.int .i64 0))⟩])
           .ret)))))))⟩
theorem t20 : compF Try.prog {} 20 = some p20 := by kernel_rfl
def p21 : PFn :=
  ⟨49, [.t 8, .t 9], .seq
    (.region [
      ⟨some 8, none, .mv true (.c (.lst 0 [] true))⟩,
      ⟨some 9, none, .mv true (.c (.int .i64 0))⟩])
    (.seq
     (.seq
      (.region [
        ⟨some 13, none, .mv false (.t 3)⟩,
        ⟨some 14, none, .callF 29 [.t 13] []⟩,
        ⟨some 15, none, .un .not (.t 14)⟩,
        ⟨some 16, none, .mv false (.t 15)⟩,
        ⟨some 17, some (16, false), .mv false (.t 1)⟩,
        ⟨some 18, some (16, false), .bin .lss (.t 17) (.c (.int .i64 0))⟩,
        ⟨some 19, none, .pick (.t 16) (.c (.bool true)) (.t 18)⟩,
        ⟨some 20, none, .mv false (.t 19)⟩,
        ⟨some 21, some (20, false), .mv false (.t 1)⟩,
        ⟨some 22, some (20, false), .mv false (.t 2)⟩,
        ⟨some 23, some (20, false), .bin .gtr (.t 21) (.t 22)⟩,
        ⟨some 24, none, .pick (.t 20) (.c (.bool true)) (.t 23)⟩,
        ⟨some 25, none, .mv false (.t 24)⟩,
        ⟨some 26, some (25, false), .mv false (.t 2)⟩,
        ⟨some 27, some (25, false), .mv false (.t 0)⟩,
        ⟨some 28, some (25, false), .len false (.t 27)⟩,
        ⟨some 29, some (25, false), .bin .gtr (.t 26) (.t 28)⟩,
        ⟨some 30, none, .pick (.t 25) (.c (.bool true)) (.t 29)⟩])
      (.cond (.t 30)
       (.seq
        (.region [
          ⟨some 8, none, .mv true (.c (.lst 0 [] true))⟩,
          ⟨some 9, none, .mv true (.c (.int .i64 1))⟩])
        .ret)
       .skip))
     (.seq
      (.region [
        ⟨some 32, none, .mv false (.t 0)⟩,
        ⟨some 33, none, .mv false (.t 3)⟩,
        ⟨some 34, none, .callF 15 [.t 32, .t 33] []⟩,
        ⟨some 31, none, .mv true (.t 34)⟩,
        ⟨some 35, none, .ext true (.t 31) 0⟩,
        ⟨some 36, none, .ext false (.t 31) 1⟩,
        ⟨some 37, none, .ext false (.t 31) 2⟩,
        ⟨some 10, none, .mv true (.t 35)⟩,
        ⟨some 11, none, .mv true (.t 36)⟩,
        ⟨some 12, none, .mv true (.t 37)⟩])
      (.seq
       (.seq
        (.region [
          ⟨some 38, none, .mv false (.t 11)⟩,
          ⟨some 39, none, .mv false (.t 2)⟩,
          ⟨some 40, none, .bin .lss (.t 38) (.t 39)⟩])
        (.cond (.t 40)
         (.seq
          (.region [
            ⟨some 41, none, .mv false (.t 10)⟩,
            ⟨some 42, none, .mv false (.t 1)⟩,
            ⟨some 43, none, .mv false (.t 2)⟩,
            ⟨some 44, none, .callF 32 [.t 41, .t 42, .t 43] []⟩,
            ⟨some 8, none, .mv true (.t 44)⟩,
            ⟨some 9, none, .mv true (.c (.int .i64 2))⟩])
          .ret)
         .skip))
       (.seq
        (.region [
          ⟨some 45, none, .mv false (.t 10)⟩,
          ⟨some 46, none, .mv false (.t 1)⟩,
          ⟨some 47, none, .mv false (.t 2)⟩,
          ⟨some 48, none, .callF 32 [.t 45, .t 46, .t 47] []⟩,
          ⟨some 8, none, .mv true (.t 48)⟩,
          ⟨some 9, none, .mv true (.c (.int .i64 0))⟩])
        .ret))))⟩
theorem t21 : compF Try.prog {} 21 = some p21 := by kernel_rfl
def p22 : PFn :=
  ⟨37, [.t 4], .seq
    (.region [
      ⟨some 4, none, .mv true (.c (.lst 0 [] true))⟩])
    (.seq
     (.region [
       ⟨some 8, none, .bsl 1 1 false [.int .i64 0] [(0, .c (.int .i64 0))] false⟩,
       ⟨some 5, none, .mv true (.t 8)⟩])
     (.seq
      (.seq
       (.region [
         ⟨some 6, none, .mv true (.c (.int .i64 1))⟩])
       (.block 0
        (.loop
         (.seq
          (.seq
           (.region [
             ⟨some 9, none, .mv false (.t 6)⟩,
             ⟨some 10, none, .mv false (.t 0)⟩,
             ⟨some 11, none, .bin .lss (.t 9) (.t 10)⟩])
           (.cond (.t 11)
            .skip
            (.exit 0)))
          (.seq
           (.block 1
            (.seq
             (.region [
               ⟨some 7, none, .mv true (.c (.int .i64 0))⟩])
             (.block 2
              (.loop
               (.seq
                (.seq
                 (.region [
                   ⟨some 14, none, .mv false (.t 7)⟩,
                   ⟨some 15, none, .mv false (.t 1)⟩,
                   ⟨some 16, none, .len false (.t 15)⟩,
                   ⟨some 17, none, .bin .lss (.t 14) (.t 16)⟩])
                 (.cond (.t 17)
                  .skip
                  (.exit 2)))
                (.seq
                 (.block 3
                  (.seq
                   (.region [
                     ⟨some 20, none, .mv false (.t 1)⟩,
                     ⟨some 21, none, .mv false (.t 7)⟩,
                     ⟨some 22, none, .iad 1 (.t 20) (.t 21)⟩,
                     ⟨some 23, none, .ld 1 false false (.t 22)⟩,
                     ⟨some 24, none, .mv false (.t 6)⟩,
                     ⟨some 25, none, .bin .eql (.t 23) (.t 24)⟩])
                   (.cond (.t 25)
                    (.seq
                     (.region [
                       ⟨some 26, none, .mv true (.t 5)⟩,
                       ⟨some 27, none, .mv false (.t 6)⟩,
                       ⟨some 28, none, .bsl 1 1 false [.int .i64 0] [(0, .t 27)] false⟩,
                       ⟨some 29, none, .app 1 8 (.t 26) (.t 28)⟩,
                       ⟨some 5, none, .mv true (.t 29)⟩])
                     (.exit 2))
                    .skip)))
                 (.region [
                   ⟨some 18, none, .mv false (.t 7)⟩,
                   ⟨some 19, none, .bin .add (.t 18) (.c (.int .i64 1))⟩,
                   ⟨some 7, none, .mv true (.t 19)⟩])))))))
           (.region [
             ⟨some 12, none, .mv false (.t 6)⟩,
             ⟨some 13, none, .bin .add (.t 12) (.c (.int .i64 1))⟩,
             ⟨some 6, none, .mv true (.t 13)⟩]))))))
      (.seq
       (.seq
        (.region [
          ⟨some 30, none, .mv false (.t 0)⟩,
          ⟨some 31, none, .bin .gtr (.t 30) (.c (.int .i64 0))⟩])
        (.cond (.t 31)
         (.region [
           ⟨some 32, none, .mv true (.t 5)⟩,
           ⟨some 33, none, .mv false (.t 0)⟩,
           ⟨some 34, none, .bsl 1 1 false [.int .i64 0] [(0, .t 33)] false⟩,
           ⟨some 35, none, .app 1 8 (.t 32) (.t 34)⟩,
           ⟨some 5, none, .mv true (.t 35)⟩])
         .skip))
       (.seq
        (.region [
          ⟨some 36, none, .mv true (.t 5)⟩,
          ⟨some 4, none, .mv true (.t 36)⟩])
        .ret))))⟩
theorem t22 : compF Try.prog {} 22 = some p22 := by kernel_rfl
def p23 : PFn :=
  ⟨35, [.t 4, .t 5], .seq
    (.region [
      ⟨some 4, none, .mv true (.c (.lst 0 [] true))⟩,
      ⟨some 5, none, .mv true (.c (.int .i64 0))⟩])
    (.seq
     (.seq
      (.region [
        ⟨some 9, none, .mv false (.t 1)⟩,
        ⟨some 10, none, .callF 33 [.t 9] []⟩,
        ⟨some 11, none, .un .not (.t 10)⟩])
      (.cond (.t 11)
       (.seq
        (.region [
          ⟨some 4, none, .mv true (.c (.lst 0 [] true))⟩,
          ⟨some 5, none, .mv true (.c (.int .i64 1))⟩])
        .ret)
       .skip))
     (.seq
      (.region [
        ⟨some 6, none, .mv true (.c (.lst 0 [] true))⟩])
      (.seq
       (.seq
        (.region [
          ⟨some 12, none, .mv false (.t 1)⟩,
          ⟨some 13, none, .len false (.t 12)⟩,
          ⟨some 14, none, .mv false (.c (.int .i64 0))⟩])
        (.block 0
         (.loop
          (.seq
           (.region [
             ⟨some 15, none, .bin .lss (.t 14) (.t 13)⟩])
           (.seq
            (.cond (.t 15)
             .skip
             (.exit 0))
            (.seq
             (.block 1
              (.seq
               (.region [
                 ⟨some 16, none, .iad 1 (.t 12) (.t 14)⟩,
                 ⟨some 17, none, .ld 1 false false (.t 16)⟩,
                 ⟨some 8, none, .mv true (.t 17)⟩])
               (.seq
                (.seq
                 (.region [
                   ⟨some 18, none, .mv false (.t 8)⟩,
                   ⟨some 19, none, .mv false (.t 0)⟩,
                   ⟨some 20, none, .len true (.t 19)⟩,
                   ⟨some 21, none, .bin .gtr (.t 18) (.t 20)⟩])
                 (.cond (.t 21)
                  (.seq
                   (.region [
                     ⟨some 4, none, .mv true (.c (.lst 0 [] true))⟩,
                     ⟨some 5, none, .mv true (.c (.int .i64 2))⟩])
                   .ret)
                  .skip))
                (.draw [
                  ⟨some 22, none, .mv true (.t 6)⟩,
                  ⟨some 23, none, .mv false (.t 0)⟩,
                  ⟨some 24, none, .mv false (.t 8)⟩,
                  ⟨some 25, none, .sls (.t 23) none (some (.t 24))⟩,
                  ⟨some 26, none, .bsl 1 1 false [.str []] [(0, .t 25)] false⟩,
                  ⟨some 27, none, .app 1 16 (.t 22) (.t 26)⟩,
                  ⟨some 28, none, .mv false (.t 0)⟩,
                  ⟨some 29, none, .mv false (.t 8)⟩,
                  ⟨some 30, none, .sls (.t 28) (some (.t 29)) none⟩,
                  ⟨some 6, none, .mv true (.t 27)⟩,
                  ⟨some 0, none, .mv true (.t 30)⟩] []))))
             (.region [
               ⟨some 31, none, .bin .add (.t 14) (.c (.int .i64 1))⟩,
               ⟨some 14, none, .mv false (.t 31)⟩])))))))
       (.seq
        (.seq
         (.region [
           ⟨some 32, none, .mv false (.t 0)⟩,
           ⟨some 33, none, .bin .neq (.t 32) (.c (.str []))⟩])
         (.cond (.t 33)
          (.seq
           (.region [
             ⟨some 4, none, .mv true (.c (.lst 0 [] true))⟩,
             ⟨some 5, none, .mv true (.c (.int .i64 5))⟩])
           .ret)
          .skip))
        (.seq
         (.region [
           ⟨some 34, none, .mv true (.t 6)⟩,
           ⟨some 4, none, .mv true (.t 34)⟩,
           ⟨some 5, none, .mv true (.c (.int .i64 0))⟩])
         .ret)))))⟩
theorem t23 : compF Try.prog {} 23 = some p23 := by kernel_rfl
def p24 : PFn :=
  ⟨43, [.t 4, .t 5], .seq
    (.region [
      ⟨some 4, none, .mv true (.c (.lst 0 [] true))⟩,
      ⟨some 5, none, .mv true (.c (.int .i64 0))⟩])
    (.seq
     (.seq
      (.region [
        ⟨some 8, none, .mv false (.t 1)⟩,
        ⟨some 9, none, .callF 34 [.t 8] []⟩,
        ⟨some 10, none, .un .not (.t 9)⟩])
      (.cond (.t 10)
       (.seq
        (.region [
          ⟨some 4, none, .mv true (.c (.lst 0 [] true))⟩,
          ⟨some 5, none, .mv true (.c (.int .i64 1))⟩])
        .ret)
       .skip))
     (.seq
      (.region [
        ⟨some 11, none, .bsl 1 0 false [] [] false⟩,
        ⟨some 6, none, .mv true (.t 11)⟩])
      (.seq
       (.seq
        (.region [
          ⟨some 7, none, .mv true (.c (.int .i64 0))⟩])
        (.block 0
         (.loop
          (.seq
           (.seq
            (.region [
              ⟨some 12, none, .mv false (.t 7)⟩,
              ⟨some 13, none, .mv false (.t 1)⟩,
              ⟨some 14, none, .len false (.t 13)⟩,
              ⟨some 15, none, .bin .lss (.t 12) (.t 14)⟩])
            (.cond (.t 15)
             .skip
             (.exit 0)))
           (.seq
            (.block 1
             (.seq
              (.seq
               (.region [
                 ⟨some 18, none, .mv false (.t 0)⟩,
                 ⟨some 19, none, .len true (.t 18)⟩,
                 ⟨some 20, none, .mv false (.t 1)⟩,
                 ⟨some 21, none, .mv false (.t 7)⟩,
                 ⟨some 22, none, .iad 1 (.t 20) (.t 21)⟩,
                 ⟨some 23, none, .ld 1 false false (.t 22)⟩,
                 ⟨some 24, none, .bin .lss (.t 19) (.t 23)⟩])
               (.cond (.t 24)
                (.seq
                 (.region [
                   ⟨some 4, none, .mv true (.c (.lst 0 [] true))⟩,
                   ⟨some 5, none, .mv true (.c (.int .i64 2))⟩])
                 .ret)
                .skip))
              (.seq
               (.region [
                 ⟨some 25, none, .mv true (.t 6)⟩,
                 ⟨some 26, none, .mv false (.t 0)⟩,
                 ⟨some 27, none, .mv false (.t 1)⟩,
                 ⟨some 28, none, .mv false (.t 7)⟩,
                 ⟨some 29, none, .iad 1 (.t 27) (.t 28)⟩,
                 ⟨some 30, none, .ld 1 false false (.t 29)⟩,
                 ⟨some 31, none, .sls (.t 26) none (some (.t 30))⟩,
                 ⟨some 32, none, .bsl 1 1 false [.str []] [(0, .t 31)] false⟩,
                 ⟨some 33, none, .app 1 16 (.t 25) (.t 32)⟩,
                 ⟨some 6, none, .mv true (.t 33)⟩])
               (.region [
                 ⟨some 34, none, .mv false (.t 0)⟩,
                 ⟨some 35, none, .mv false (.t 1)⟩,
                 ⟨some 36, none, .mv false (.t 7)⟩,
                 ⟨some 37, none, .iad 1 (.t 35) (.t 36)⟩,
                 ⟨some 38, none, .ld 1 false false (.t 37)⟩,
                 ⟨some 39, none, .sls (.t 34) (some (.t 38)) none⟩,
                 ⟨some 0, none, .mv true (.t 39)⟩]))))
            (.region [
              ⟨some 16, none, .mv false (.t 7)⟩,
              ⟨some 17, none, .bin .add (.t 16) (.c (.int .i64 1))⟩,
              ⟨some 7, none, .mv true (.t 17)⟩]))))))
       (.seq
        (.seq
         (.region [
           ⟨some 40, none, .mv false (.t 0)⟩,
           ⟨some 41, none, .bin .neq (.t 40) (.c (.str []))⟩])
         (.cond (.t 41)
          (.seq
           (.region [
             ⟨some 4, none, .mv true (.c (.lst 0 [] true))⟩,
             ⟨some 5, none, .mv true (.c (.int .i64 5))⟩])
           .ret)
          .skip))
        (.seq
         (.region [
           ⟨some 42, none, .mv true (.t 6)⟩,
           ⟨some 4, none, .mv true (.t 42)⟩,
           ⟨some 5, none, .mv true (.c (.int .i64 0))⟩])
         .ret)))))⟩
theorem t24 : compF Try.prog {} 24 = some p24 := by kernel_rfl
def p25 : PFn :=
  ⟨17, [.t 4, .t 5], .seq
    (.region [
      ⟨some 4, none, .mv true (.c (.str []))⟩,
      ⟨some 5, none, .mv true (.c (.int .i64 0))⟩])
    (.seq
     (.seq
      (.region [
        ⟨some 7, none, .mv false (.t 1)⟩,
        ⟨some 8, none, .callF 33 [.t 7] []⟩,
        ⟨some 9, none, .un .not (.t 8)⟩])
      (.cond (.t 9)
       (.seq
        (.region [
          ⟨some 4, none, .mv true (.c (.str []))⟩,
          ⟨some 5, none, .mv true (.c (.int .i64 1))⟩])
        .ret)
       .skip))
     (.seq
      (.region [
        ⟨some 6, none, .mv true (.c (.fn (.func 35) [] []))⟩])
      (.seq
       (.seq
        (.region [
          ⟨some 10, none, .mv false (.t 0)⟩,
          ⟨some 11, none, .mv false (.t 1)⟩,
          ⟨some 12, none, .mv false (.t 6)⟩,
          ⟨some 13, none, .callF 36 [.t 10, .t 11, .t 12] []⟩,
          ⟨some 14, none, .un .not (.t 13)⟩])
        (.cond (.t 14)
         (.seq
          (.region [
            ⟨some 4, none, .mv true (.c (.str []))⟩,
            ⟨some 5, none, .mv true (.c (.int .i64 10))⟩])
          .ret)
         .skip))
       (.seq
        (.region [
          ⟨some 15, none, .mv false (.t 0)⟩,
          ⟨some 16, none, .callF 37 [.t 15, .c (.str [])] []⟩,
          ⟨some 4, none, .mv true (.t 16)⟩,
          ⟨some 5, none, .mv true (.c (.int .i64 0))⟩])
        .ret))))⟩
theorem t25 : compF Try.prog {} 25 = some p25 := by kernel_rfl
def p26 : PFn :=
  ⟨39, [.t 4, .t 5], .seq
    (.region [
      ⟨some 4, none, .mv true (.c (.str []))⟩,
      ⟨some 5, none, .mv true (.c (.int .i64 0))⟩])
    (.seq
     (.seq
      (.region [
        ⟨some 8, none, .mv false (.t 1)⟩,
        ⟨some 9, none, .callF 34 [.t 8] []⟩,
        ⟨some 10, none, .un .not (.t 9)⟩])
      (.cond (.t 10)
       (.seq
        (.region [
          ⟨some 4, none, .mv true (.c (.str []))⟩,
          ⟨some 5, none, .mv true (.c (.int .i64 1))⟩])
        .ret)
       .skip))
     (.seq
      (.seq
       (.region [
         ⟨some 11, none, .mv false (.t 0)⟩,
         ⟨some 12, none, .len false (.t 11)⟩,
         ⟨some 13, none, .mv false (.t 1)⟩,
         ⟨some 14, none, .len false (.t 13)⟩,
         ⟨some 15, none, .bin .neq (.t 12) (.t 14)⟩])
       (.cond (.t 15)
        (.seq
         (.region [
           ⟨some 4, none, .mv true (.c (.str []))⟩,
           ⟨some 5, none, .mv true (.c (.int .i64 10))⟩])
         .ret)
        .skip))
      (.seq
       (.region [
         ⟨some 6, none, .mv true (.c (.str []))⟩])
       (.seq
        (.seq
         (.region [
           ⟨some 7, none, .mv true (.c (.int .i64 0))⟩])
         (.block 0
          (.loop
           (.seq
            (.seq
             (.region [
               ⟨some 16, none, .mv false (.t 7)⟩,
               ⟨some 17, none, .mv false (.t 1)⟩,
               ⟨some 18, none, .len false (.t 17)⟩,
               ⟨some 19, none, .bin .lss (.t 16) (.t 18)⟩])
             (.cond (.t 19)
              .skip
              (.exit 0)))
            (.seq
             (.block 1
              (.seq
               (.seq
                (.draw [
                  ⟨some 22, none, .mv false (.t 0)⟩,
                  ⟨some 23, none, .mv false (.t 7)⟩,
                  ⟨some 24, none, .iad 1 (.t 22) (.t 23)⟩,
                  ⟨some 25, none, .ld 1 false false (.t 24)⟩,
                  ⟨some 26, none, .len true (.t 25)⟩,
                  ⟨some 27, none, .mv false (.t 1)⟩,
                  ⟨some 28, none, .mv false (.t 7)⟩,
                  ⟨some 29, none, .iad 1 (.t 27) (.t 28)⟩,
                  ⟨some 30, none, .ld 1 false false (.t 29)⟩,
                  ⟨some 31, none, .bin .neq (.t 26) (.t 30)⟩] [])
                (.cond (.t 31)
                 (.seq
                  (.region [
                    ⟨some 4, none, .mv true (.c (.str []))⟩,
                    ⟨some 5, none, .mv true (.c (.int .i64 10))⟩])
                  .ret)
                 .skip))
               (.region [
                 ⟨some 32, none, .mv false (.t 6)⟩,
                 ⟨some 33, none, .mv false (.t 0)⟩,
                 ⟨some 34, none, .mv false (.t 7)⟩,
                 ⟨some 35, none, .iad 1 (.t 33) (.t 34)⟩,
                 ⟨some 36, none, .ld 1 false false (.t 35)⟩,
                 ⟨some 37, none, .bin .add (.t 32) (.t 36)⟩,
                 ⟨some 6, none, .mv true (.t 37)⟩])))
             (.region [
               ⟨some 20, none, .mv false (.t 7)⟩,
               ⟨some 21, none, .bin .add (.t 20) (.c (.int .i64 1))⟩,
               ⟨some 7, none, .mv true (.t 21)⟩]))))))
        (.seq
         (.region [
           ⟨some 38, none, .mv true (.t 6)⟩,
           ⟨some 4, none, .mv true (.t 38)⟩,
           ⟨some 5, none, .mv true (.c (.int .i64 0))⟩])
         .ret)))))⟩
theorem t26 : compF Try.prog {} 26 = some p26 := by kernel_rfl
def p27 : PFn :=
  ⟨26, [.t 4], .seq
    (.region [
      ⟨some 4, none, .mv true (.c (.bool false))⟩])
    (.seq
     (.seq
      (.region [
        ⟨some 6, none, .mv false (.t 0)⟩,
        ⟨some 7, none, .len false (.t 6)⟩,
        ⟨some 8, none, .mv false (.t 1)⟩,
        ⟨some 9, none, .len false (.t 8)⟩,
        ⟨some 10, none, .bin .neq (.t 7) (.t 9)⟩])
      (.cond (.t 10)
       (.seq
        (.region [
          ⟨some 4, none, .mv true (.c (.bool false))⟩])
        .ret)
       .skip))
     (.seq
      (.seq
       (.region [
         ⟨some 5, none, .mv true (.c (.int .i64 0))⟩])
       (.block 0
        (.loop
         (.seq
          (.seq
           (.region [
             ⟨some 11, none, .mv false (.t 5)⟩,
             ⟨some 12, none, .mv false (.t 0)⟩,
             ⟨some 13, none, .len false (.t 12)⟩,
             ⟨some 14, none, .bin .lss (.t 11) (.t 13)⟩])
           (.cond (.t 14)
            .skip
            (.exit 0)))
          (.seq
           (.block 1
            (.seq
             (.draw [
               ⟨some 17, none, .mv false (.t 0)⟩,
               ⟨some 18, none, .mv false (.t 5)⟩,
               ⟨some 19, none, .iad 1 (.t 17) (.t 18)⟩,
               ⟨some 20, none, .ld 1 false false (.t 19)⟩,
               ⟨some 21, none, .mv false (.t 1)⟩,
               ⟨some 22, none, .mv false (.t 5)⟩,
               ⟨some 23, none, .iad 1 (.t 21) (.t 22)⟩,
               ⟨some 24, none, .ld 1 false false (.t 23)⟩,
               ⟨some 25, none, .bin .neq (.t 20) (.t 24)⟩] [])
             (.cond (.t 25)
              (.seq
               (.region [
                 ⟨some 4, none, .mv true (.c (.bool false))⟩])
               .ret)
              .skip)))
           (.region [
             ⟨some 15, none, .mv false (.t 5)⟩,
             ⟨some 16, none, .bin .add (.t 15) (.c (.int .i64 1))⟩,
             ⟨some 5, none, .mv true (.t 16)⟩]))))))
      (.seq
       (.region [
         ⟨some 4, none, .mv true (.c (.bool true))⟩])
       .ret)))⟩
theorem t27 : compF Try.prog {} 27 = some p27 := by kernel_rfl
def p28 : PFn :=
  ⟨9, [.t 2], .seq
    (.region [
      ⟨some 2, none, .mv true (.c (.bool false))⟩])
    (.seq
     (.region [
       ⟨some 3, none, .mv false (.t 0)⟩,
       ⟨some 4, none, .bin .geq (.t 3) (.c (.int .i64 1))⟩,
       ⟨some 5, none, .mv false (.t 4)⟩,
       ⟨some 6, some (5, true), .mv false (.t 0)⟩,
       ⟨some 7, some (5, true), .bin .leq (.t 6) (.c (.int .i64 1000))⟩,
       ⟨some 8, none, .pick (.t 5) (.t 7) (.c (.bool false))⟩,
       ⟨some 2, none, .mv true (.t 8)⟩])
     .ret)⟩
theorem t28 : compF Try.prog {} 28 = some p28 := by kernel_rfl
def p29 : PFn :=
  ⟨9, [.t 2], .seq
    (.region [
      ⟨some 2, none, .mv true (.c (.bool false))⟩])
    (.seq
     (.region [
       ⟨some 3, none, .mv false (.t 0)⟩,
       ⟨some 4, none, .bin .geq (.t 3) (.c (.int .i64 1))⟩,
       ⟨some 5, none, .mv false (.t 4)⟩,
       ⟨some 6, some (5, true), .mv false (.t 0)⟩,
       ⟨some 7, some (5, true), .bin .leq (.t 6) (.c (.int .i64 1000))⟩,
       ⟨some 8, none, .pick (.t 5) (.t 7) (.c (.bool false))⟩,
       ⟨some 2, none, .mv true (.t 8)⟩])
     .ret)⟩
theorem t29 : compF Try.prog {} 29 = some p29 := by kernel_rfl
def p30 : PFn :=
  ⟨12, [.t 4], .seq
    (.region [
      ⟨some 4, none, .mv true (.c (.int .i64 0))⟩])
    (.seq
     (.region [
       ⟨some 5, none, .mv false (.t 0)⟩,
       ⟨some 6, none, .len false (.t 5)⟩,
       ⟨some 7, none, .mv false (.t 0)⟩,
       ⟨some 8, none, .len false (.t 7)⟩,
       ⟨some 9, none, .mv false (.t 1)⟩,
       ⟨some 10, none, .bin .rem (.t 8) (.t 9)⟩,
       ⟨some 11, none, .bin .sub (.t 6) (.t 10)⟩,
       ⟨some 4, none, .mv true (.t 11)⟩])
     .ret)⟩
theorem t30 : compF Try.prog {} 30 = some p30 := by kernel_rfl
def p31 : PFn :=
  ⟨31, [.t 8], .seq
    (.region [
      ⟨some 8, none, .mv true (.c (.lst 0 [] true))⟩])
    (.seq
     (.region [
       ⟨some 9, none, .mv true (.c (.lst 0 [] true))⟩])
     (.seq
      (.block 0
       (.loop
        (.seq
         (.seq
          (.region [
            ⟨some 10, none, .mv false (.t 1)⟩,
            ⟨some 11, none, .mv false (.t 2)⟩,
            ⟨some 12, none, .bin .lss (.t 10) (.t 11)⟩])
          (.cond (.t 12)
           .skip
           (.exit 0)))
         (.seq
          (.block 1
           (.region [
             ⟨some 16, none, .mv true (.t 9)⟩,
             ⟨some 17, none, .mv false (.t 1)⟩,
             ⟨some 18, none, .mv false (.t 0)⟩,
             ⟨some 19, none, .mv false (.t 1)⟩,
             ⟨some 20, none, .mv false (.t 1)⟩,
             ⟨some 21, none, .mv false (.t 3)⟩,
             ⟨some 22, none, .bin .add (.t 20) (.t 21)⟩,
             ⟨some 23, none, .sli 1 (.t 18) (some (.t 19)) (some (.t 22)) none⟩,
             ⟨some 24, none, .cvS (.t 23)⟩,
             ⟨some 25, none, .bsl 1 1 false [.str []] [(0, .t 24)] false⟩,
             ⟨some 26, none, .bsl 1 1 false [.lst 0 [] true] [(0, .t 25)] false⟩,
             ⟨some 27, none, .build [.int .i64 0, .lst 0 [] true] [(0, (1, .t 17)), (1, (1, .t 26))]⟩,
             ⟨some 28, none, .bsl 2 1 true [.int .i64 0, .lst 0 [] true] [(0, .t 27)] false⟩,
             ⟨some 29, none, .app 2 32 (.t 16) (.t 28)⟩,
             ⟨some 9, none, .mv true (.t 29)⟩]))
          (.region [
            ⟨some 13, none, .mv false (.t 1)⟩,
            ⟨some 14, none, .mv false (.t 3)⟩,
            ⟨some 15, none, .bin .add (.t 13) (.t 14)⟩,
            ⟨some 1, none, .mv true (.t 15)⟩])))))
      (.seq
       (.region [
         ⟨some 30, none, .mv true (.t 9)⟩,
         ⟨some 8, none, .mv true (.t 30)⟩])
       .ret)))⟩
theorem t31 : compF Try.prog {} 31 = some p31 := by kernel_rfl
def p32 : PFn :=
  ⟨40, [.t 6], .seq
    (.region [
      ⟨some 6, none, .mv true (.c (.lst 0 [] true))⟩])
    (.seq
     (.region [
       ⟨some 9, none, .bsl 1 0 false [] [] false⟩,
       ⟨some 7, none, .mv true (.t 9)⟩])
     (.seq
      (.seq
       (.region [
         ⟨some 8, none, .mv true (.c (.int .i64 0))⟩])
       (.block 0
        (.loop
         (.seq
          (.seq
           (.region [
             ⟨some 10, none, .mv false (.t 8)⟩,
             ⟨some 11, none, .mv false (.t 0)⟩,
             ⟨some 12, none, .len false (.t 11)⟩,
             ⟨some 13, none, .bin .lss (.t 10) (.t 12)⟩])
           (.cond (.t 13)
            .skip
            (.exit 0)))
          (.seq
           (.block 1
            (.seq
             (.region [
               ⟨some 16, none, .mv false (.t 0)⟩,
               ⟨some 17, none, .mv false (.t 8)⟩,
               ⟨some 18, none, .iad 2 (.t 16) (.t 17)⟩,
               ⟨some 19, none, .fad 0 (.t 18)⟩,
               ⟨some 20, none, .ld 1 false false (.t 19)⟩,
               ⟨some 21, none, .mv false (.t 1)⟩,
               ⟨some 22, none, .bin .geq (.t 20) (.t 21)⟩,
               ⟨some 23, none, .mv false (.t 22)⟩,
               ⟨some 24, some (23, true), .mv false (.t 0)⟩,
               ⟨some 25, some (23, true), .mv false (.t 8)⟩,
               ⟨some 26, some (23, true), .iad 2 (.t 24) (.t 25)⟩,
               ⟨some 27, some (23, true), .fad 0 (.t 26)⟩,
               ⟨some 28, some (23, true), .ld 1 false false (.t 27)⟩,
               ⟨some 29, some (23, true), .mv false (.t 2)⟩,
               ⟨some 30, some (23, true), .bin .lss (.t 28) (.t 29)⟩,
               ⟨some 31, none, .pick (.t 23) (.t 30) (.c (.bool false))⟩])
             (.cond (.t 31)
              (.region [
                ⟨some 32, none, .mv true (.t 7)⟩,
                ⟨some 33, none, .mv false (.t 0)⟩,
                ⟨some 34, none, .mv false (.t 8)⟩,
                ⟨some 35, none, .iad 2 (.t 33) (.t 34)⟩,
                ⟨some 36, none, .fad 1 (.t 35)⟩,
                ⟨some 37, none, .ld 1 false false (.t 36)⟩,
                ⟨some 38, none, .app 1 24 (.t 32) (.t 37)⟩,
                ⟨some 7, none, .mv true (.t 38)⟩])
              .skip)))
           (.region [
             ⟨some 14, none, .mv false (.t 8)⟩,
             ⟨some 15, none, .bin .add (.t 14) (.c (.int .i64 1))⟩,
             ⟨some 8, none, .mv true (.t 15)⟩]))))))
      (.seq
       (.region [
         ⟨some 39, none, .mv true (.t 7)⟩,
         ⟨some 6, none, .mv true (.t 39)⟩])
       .ret)))⟩
theorem t32 : compF Try.prog {} 32 = some p32 := by kernel_rfl
def p33 : PFn :=
  ⟨18, [.t 2], .seq
    (.region [
      ⟨some 2, none, .mv true (.c (.bool false))⟩])
    (.seq
     (.region [
       ⟨some 3, none, .mv true (.c (.fn (.func 38) [] []))⟩])
     (.seq
      (.region [
        ⟨some 4, none, .mv false (.t 0)⟩,
        ⟨some 5, none, .len false (.t 4)⟩,
        ⟨some 6, none, .bin .geq (.t 5) (.c (.int .i64 1))⟩,
        ⟨some 7, none, .mv false (.t 6)⟩,
        ⟨some 8, some (7, true), .mv false (.t 0)⟩,
        ⟨some 9, some (7, true), .len false (.t 8)⟩,
        ⟨some 10, some (7, true), .bin .leq (.t 9) (.c (.int .i64 50))⟩,
        ⟨some 11, none, .pick (.t 7) (.t 10) (.c (.bool false))⟩,
        ⟨some 12, none, .mv false (.t 11)⟩,
        ⟨some 13, some (12, true), .mv false (.t 0)⟩,
        ⟨some 14, some (12, true), .mv false (.t 3)⟩,
        ⟨some 15, some (12, true), .callF 39 [.t 13, .t 14] []⟩,
        ⟨some 16, some (12, true), .un .not (.t 15)⟩,
        ⟨some 17, none, .pick (.t 12) (.t 16) (.c (.bool false))⟩,
        ⟨some 2, none, .mv true (.t 17)⟩])
      .ret))⟩
theorem t33 : compF Try.prog {} 33 = some p33 := by kernel_rfl
def p34 : PFn :=
  ⟨30, [.t 2], .seq
    (.region [
      ⟨some 2, none, .mv true (.c (.bool false))⟩])
    (.seq
     (.seq
      (.region [
        ⟨some 4, none, .mv false (.t 0)⟩,
        ⟨some 5, none, .len false (.t 4)⟩,
        ⟨some 6, none, .bin .lss (.t 5) (.c (.int .i64 1))⟩,
        ⟨some 7, none, .mv false (.t 6)⟩,
        ⟨some 8, some (7, false), .mv false (.t 0)⟩,
        ⟨some 9, some (7, false), .len false (.t 8)⟩,
        ⟨some 10, some (7, false), .bin .gtr (.t 9) (.c (.int .i64 50))⟩,
        ⟨some 11, none, .pick (.t 7) (.c (.bool true)) (.t 10)⟩])
      (.cond (.t 11)
       (.seq
        (.region [
          ⟨some 2, none, .mv true (.c (.bool false))⟩])
        .ret)
       .skip))
     (.seq
      (.seq
       (.region [
         ⟨some 3, none, .mv true (.c (.int .i64 0))⟩])
       (.block 0
        (.loop
         (.seq
          (.seq
           (.region [
             ⟨some 12, none, .mv false (.t 3)⟩,
             ⟨some 13, none, .mv false (.t 0)⟩,
             ⟨some 14, none, .len false (.t 13)⟩,
             ⟨some 15, none, .bin .lss (.t 12) (.t 14)⟩])
           (.cond (.t 15)
            .skip
            (.exit 0)))
          (.seq
           (.block 1
            (.seq
             (.region [
               ⟨some 18, none, .mv false (.t 0)⟩,
               ⟨some 19, none, .mv false (.t 3)⟩,
               ⟨some 20, none, .iad 1 (.t 18) (.t 19)⟩,
               ⟨some 21, none, .ld 1 false false (.t 20)⟩,
               ⟨some 22, none, .bin .lss (.t 21) (.c (.int .i64 0))⟩,
               ⟨some 23, none, .mv false (.t 22)⟩,
               ⟨some 24, some (23, false), .mv false (.t 0)⟩,
               ⟨some 25, some (23, false), .mv false (.t 3)⟩,
               ⟨some 26, some (23, false), .iad 1 (.t 24) (.t 25)⟩,
               ⟨some 27, some (23, false), .ld 1 false false (.t 26)⟩,
               ⟨some 28, some (23, false), .bin .gtr (.t 27) (.c (.int .i64 1000))⟩,
               ⟨some 29, none, .pick (.t 23) (.c (.bool true)) (.t 28)⟩])
             (.cond (.t 29)
              (.seq
               (.region [
                 ⟨some 2, none, .mv true (.c (.bool false))⟩])
               .ret)
              .skip)))
           (.region [
             ⟨some 16, none, .mv false (.t 3)⟩,
             ⟨some 17, none, .bin .add (.t 16) (.c (.int .i64 1))⟩,
             ⟨some 3, none, .mv true (.t 17)⟩]))))))
      (.seq
       (.region [
         ⟨some 2, none, .mv true (.c (.bool true))⟩])
       .ret)))⟩
theorem t34 : compF Try.prog {} 34 = some p34 := by kernel_rfl
def p35 : PFn :=
  ⟨9, [.t 4], .seq
    (.region [
      ⟨some 4, none, .mv true (.c (.bool false))⟩])
    (.seq
     (.region [
       ⟨some 5, none, .mv false (.t 0)⟩,
       ⟨some 6, none, .len true (.t 5)⟩,
       ⟨some 7, none, .mv false (.t 1)⟩,
       ⟨some 8, none, .bin .eql (.t 6) (.t 7)⟩,
       ⟨some 4, none, .mv true (.t 8)⟩])
     .ret)⟩
theorem t35 : compF Try.prog {} 35 = some p35 := by kernel_rfl
def p36 : PFn :=
  ⟨32, [.t 6], .seq
    (.region [
      ⟨some 6, none, .mv true (.c (.bool false))⟩])
    (.seq
     (.seq
      (.region [
        ⟨some 10, none, .mv false (.t 0)⟩,
        ⟨some 11, none, .len false (.t 10)⟩,
        ⟨some 12, none, .mv false (.t 1)⟩,
        ⟨some 13, none, .len false (.t 12)⟩,
        ⟨some 14, none, .bin .neq (.t 11) (.t 13)⟩])
      (.cond (.t 14)
       (.seq
        (.region [
          ⟨some 6, none, .mv true (.c (.bool false))⟩])
        .ret)
       .skip))
     (.seq
      (.seq
       (.region [
         ⟨some 15, none, .mv false (.t 0)⟩,
         ⟨some 16, none, .len false (.t 15)⟩,
         ⟨some 17, none, .mv false (.c (.int .i64 0))⟩])
       (.block 0
        (.loop
         (.seq
          (.region [
            ⟨some 18, none, .bin .lss (.t 17) (.t 16)⟩])
          (.seq
           (.cond (.t 18)
            .skip
            (.exit 0))
           (.seq
            (.block 1
             (.seq
              (.region [
                ⟨some 19, none, .mv true (.t 17)⟩,
                ⟨some 20, none, .iad 1 (.t 15) (.t 17)⟩,
                ⟨some 21, none, .ld 1 false false (.t 20)⟩,
                ⟨some 7, none, .mv true (.t 19)⟩,
                ⟨some 8, none, .mv true (.t 21)⟩])
              (.seq
               (.region [
                 ⟨some 22, none, .mv false (.t 1)⟩,
                 ⟨some 23, none, .mv false (.t 7)⟩,
                 ⟨some 24, none, .iad 1 (.t 22) (.t 23)⟩,
                 ⟨some 25, none, .ld 1 false false (.t 24)⟩,
                 ⟨some 9, none, .mv true (.t 25)⟩])
               (.seq
                (.region [
                  ⟨some 26, none, .mv false (.t 2)⟩,
                  ⟨some 27, none, .mv false (.t 8)⟩,
                  ⟨some 28, none, .mv false (.t 9)⟩,
                  ⟨some 29, none, .callV (.t 26) [.t 27, .t 28]⟩,
                  ⟨some 30, none, .un .not (.t 29)⟩])
                (.cond (.t 30)
                 (.seq
                  (.region [
                    ⟨some 6, none, .mv true (.c (.bool false))⟩])
                  .ret)
                 .skip)))))
            (.region [
              ⟨some 31, none, .bin .add (.t 17) (.c (.int .i64 1))⟩,
              ⟨some 17, none, .mv false (.t 31)⟩])))))))
      (.seq
       (.region [
         ⟨some 6, none, .mv true (.c (.bool true))⟩])
       .ret)))⟩
theorem t36 : compF Try.prog {} 36 = some p36 := by kernel_rfl
def p37 : PFn :=
  ⟨75, [.t 4], .seq
    (.region [
      ⟨some 4, none, .mv true (.c (.str []))⟩])
    (.seq
     (.seq
      (.region [
        ⟨some 11, none, .mv false (.t 0)⟩,
        ⟨some 12, none, .len false (.t 11)⟩])
      (.block 0
       (.seq
        (.region [
          ⟨some 14, none, .bin .eql (.t 12) (.c (.int .i64 0))⟩,
          ⟨some 13, none, .mv true (.t 14)⟩])
        (.cond (.t 13)
         (.seq
          (.region [
            ⟨some 4, none, .mv true (.c (.str []))⟩])
          .ret)
         (.seq
          (.region [
            ⟨some 16, none, .bin .eql (.t 12) (.c (.int .i64 1))⟩,
            ⟨some 15, none, .mv true (.t 16)⟩])
          (.cond (.t 15)
           (.seq
            (.region [
              ⟨some 17, none, .mv false (.t 0)⟩,
              ⟨some 18, none, .iad 1 (.t 17) (.c (.int .i64 0))⟩,
              ⟨some 19, none, .ld 1 false false (.t 18)⟩,
              ⟨some 4, none, .mv true (.t 19)⟩])
            .ret)
           .skip))))))
     (.seq
      (.region [
        ⟨some 5, none, .mv true (.c (.int .i64 0))⟩])
      (.seq
       (.seq
        (.region [
          ⟨some 20, none, .mv false (.t 1)⟩,
          ⟨some 21, none, .len true (.t 20)⟩,
          ⟨some 22, none, .bin .gtr (.t 21) (.c (.int .i64 0))⟩])
        (.cond (.t 22)
         (.seq
          (.seq
           (.region [
             ⟨some 23, none, .mv false (.t 1)⟩,
             ⟨some 24, none, .len true (.t 23)⟩,
             ⟨some 25, none, .mv false (.t 0)⟩,
             ⟨some 26, none, .len false (.t 25)⟩,
             ⟨some 27, none, .bin .sub (.t 26) (.c (.int .i64 1))⟩,
             ⟨some 28, none, .bin .quo (.c (.int .i64 9223372036854775807)) (.t 27)⟩,
             ⟨some 29, none, .bin .geq (.t 24) (.t 28)⟩])
           (.cond (.t 29)
            (.region [
              ⟨some 30, none, .bad⟩,
              ⟨none, none, .bad⟩])
            .skip))
          (.region [
            ⟨some 31, none, .mv false (.t 5)⟩,
            ⟨some 32, none, .mv false (.t 1)⟩,
            ⟨some 33, none, .len true (.t 32)⟩,
            ⟨some 34, none, .mv false (.t 0)⟩,
            ⟨some 35, none, .len false (.t 34)⟩,
            ⟨some 36, none, .bin .sub (.t 35) (.c (.int .i64 1))⟩,
            ⟨some 37, none, .bin .mul (.t 33) (.t 36)⟩,
            ⟨some 38, none, .bin .add (.t 31) (.t 37)⟩,
            ⟨some 5, none, .mv true (.t 38)⟩]))
         .skip))
       (.seq
        (.seq
         (.region [
           ⟨some 39, none, .mv false (.t 0)⟩,
           ⟨some 40, none, .len false (.t 39)⟩,
           ⟨some 41, none, .mv false (.c (.int .i64 0))⟩])
         (.block 1
          (.loop
           (.seq
            (.region [
              ⟨some 42, none, .bin .lss (.t 41) (.t 40)⟩])
            (.seq
             (.cond (.t 42)
              .skip
              (.exit 1))
             (.seq
              (.block 2
               (.seq
                (.region [
                  ⟨some 43, none, .iad 1 (.t 39) (.t 41)⟩,
                  ⟨some 44, none, .ld 1 false false (.t 43)⟩,
                  ⟨some 7, none, .mv true (.t 44)⟩])
                (.seq
                 (.seq
                  (.region [
                    ⟨some 45, none, .mv false (.t 7)⟩,
                    ⟨some 46, none, .len true (.t 45)⟩,
                    ⟨some 47, none, .mv false (.t 5)⟩,
                    ⟨some 48, none, .bin .sub (.c (.int .i64 9223372036854775807)) (.t 47)⟩,
                    ⟨some 49, none, .bin .gtr (.t 46) (.t 48)⟩])
                  (.cond (.t 49)
                   (.region [
                     ⟨some 50, none, .bad⟩,
                     ⟨none, none, .bad⟩])
                   .skip))
                 (.region [
                   ⟨some 51, none, .mv false (.t 5)⟩,
                   ⟨some 52, none, .mv false (.t 7)⟩,
                   ⟨some 53, none, .len true (.t 52)⟩,
                   ⟨some 54, none, .bin .add (.t 51) (.t 53)⟩,
                   ⟨some 5, none, .mv true (.t 54)⟩]))))
              (.region [
                ⟨some 55, none, .bin .add (.t 41) (.c (.int .i64 1))⟩,
                ⟨some 41, none, .mv false (.t 55)⟩])))))))
        (.seq
         (.region [
           ⟨some 8, none, .al [.ptr none, .lst 0 [] true]⟩])
         (.seq
          (.region [
            ⟨some 56, none, .mv false (.t 5)⟩,
            ⟨some 57, none, .callF 40 [.t 8, .t 56] []⟩])
          (.seq
           (.region [
             ⟨some 58, none, .mv false (.t 0)⟩,
             ⟨some 59, none, .iad 1 (.t 58) (.c (.int .i64 0))⟩,
             ⟨some 60, none, .ld 1 false false (.t 59)⟩,
             ⟨some 61, none, .callF 41 [.t 8, .t 60] []⟩])
           (.seq
            (.seq
             (.region [
               ⟨some 62, none, .mv false (.t 0)⟩,
               ⟨some 63, none, .sli 1 (.t 62) (some (.c (.int .i64 1))) none none⟩,
               ⟨some 64, none, .len false (.t 63)⟩,
               ⟨some 65, none, .mv false (.c (.int .i64 0))⟩])
             (.block 3
              (.loop
               (.seq
                (.region [
                  ⟨some 66, none, .bin .lss (.t 65) (.t 64)⟩])
                (.seq
                 (.cond (.t 66)
                  .skip
                  (.exit 3))
                 (.seq
                  (.block 4
                   (.seq
                    (.region [
                      ⟨some 67, none, .iad 1 (.t 63) (.t 65)⟩,
                      ⟨some 68, none, .ld 1 false false (.t 67)⟩,
                      ⟨some 10, none, .mv true (.t 68)⟩])
                    (.seq
                     (.region [
                       ⟨some 69, none, .mv false (.t 1)⟩,
                       ⟨some 70, none, .callF 41 [.t 8, .t 69] []⟩])
                     (.region [
                       ⟨some 71, none, .mv false (.t 10)⟩,
                       ⟨some 72, none, .callF 41 [.t 8, .t 71] []⟩]))))
                  (.region [
                    ⟨some 73, none, .bin .add (.t 65) (.c (.int .i64 1))⟩,
                    ⟨some 65, none, .mv false (.t 73)⟩])))))))
            (.seq
             (.region [
               ⟨some 74, none, .callF 42 [.t 8] []⟩,
               ⟨some 4, none, .mv true (.t 74)⟩])
             .ret)))))))))⟩
theorem t37 : compF Try.prog {} 37 = some p37 := by kernel_rfl
def p38 : PFn :=
  ⟨9, [.t 2], .seq
    (.region [
      ⟨some 2, none, .mv true (.c (.bool false))⟩])
    (.seq
     (.region [
       ⟨some 3, none, .mv false (.t 0)⟩,
       ⟨some 4, none, .bin .lss (.t 3) (.c (.int .i64 0))⟩,
       ⟨some 5, none, .mv false (.t 4)⟩,
       ⟨some 6, some (5, false), .mv false (.t 0)⟩,
       ⟨some 7, some (5, false), .bin .gtr (.t 6) (.c (.int .i64 1000))⟩,
       ⟨some 8, none, .pick (.t 5) (.c (.bool true)) (.t 7)⟩,
       ⟨some 2, none, .mv true (.t 8)⟩])
     .ret)⟩
theorem t38 : compF Try.prog {} 38 = some p38 := by kernel_rfl
def p39 : PFn :=
  ⟨9, [.t 4], .seq
    (.region [
      ⟨some 4, none, .mv true (.c (.bool false))⟩])
    (.seq
     (.region [
       ⟨some 5, none, .mv false (.t 0)⟩,
       ⟨some 6, none, .mv false (.t 1)⟩,
       ⟨some 7, none, .callF 43 [.t 5, .t 6] []⟩,
       ⟨some 8, none, .bin .geq (.t 7) (.c (.int .i64 0))⟩,
       ⟨some 4, none, .mv true (.t 8)⟩])
     .ret)⟩
theorem t39 : compF Try.prog {} 39 = some p39 := by kernel_rfl
def p40 : PFn :=
  ⟨25, [], .seq
    (.region [
      ⟨some 4, none, .mv false (.t 0)⟩,
      ⟨some 5, none, .callF 44 [.t 4] []⟩])
    (.seq
     (.seq
      (.region [
        ⟨some 6, none, .mv false (.t 1)⟩,
        ⟨some 7, none, .bin .lss (.t 6) (.c (.int .i64 0))⟩])
      (.cond (.t 7)
       (.region [
         ⟨some 8, none, .bad⟩,
         ⟨none, none, .bad⟩])
       .skip))
     (.seq
      (.draw [
        ⟨some 9, none, .mv false (.t 0)⟩,
        ⟨some 10, none, .nck (.t 9)⟩,
        ⟨some 11, none, .fad 1 (.t 10)⟩,
        ⟨some 12, none, .ld 1 false false (.t 11)⟩,
        ⟨some 13, none, .cap (.t 12)⟩,
        ⟨some 14, none, .mv false (.t 0)⟩,
        ⟨some 15, none, .nck (.t 14)⟩,
        ⟨some 16, none, .fad 1 (.t 15)⟩,
        ⟨some 17, none, .ld 1 false false (.t 16)⟩,
        ⟨some 18, none, .len false (.t 17)⟩,
        ⟨some 19, none, .bin .sub (.t 13) (.t 18)⟩,
        ⟨some 20, none, .mv false (.t 1)⟩,
        ⟨some 21, none, .bin .lss (.t 19) (.t 20)⟩] [])
      (.cond (.t 21)
       (.region [
         ⟨some 22, none, .mv false (.t 0)⟩,
         ⟨some 23, none, .mv false (.t 1)⟩,
         ⟨some 24, none, .callF 45 [.t 22, .t 23] []⟩])
       .skip)))⟩
theorem t40 : compF Try.prog {} 40 = some p40 := by kernel_rfl
def p41 : PFn :=
  ⟨19, [.t 4, .t 5], .seq
    (.region [
      ⟨some 4, none, .mv true (.c (.int .i64 0))⟩,
      ⟨some 5, none, .bad⟩])
    (.seq
     (.region [
       ⟨some 6, none, .mv false (.t 0)⟩,
       ⟨some 7, none, .callF 44 [.t 6] []⟩])
     (.seq
      (.region [
        ⟨some 8, none, .mv false (.t 0)⟩,
        ⟨some 9, none, .mv false (.t 0)⟩,
        ⟨some 10, none, .nck (.t 9)⟩,
        ⟨some 11, none, .fad 1 (.t 10)⟩,
        ⟨some 12, none, .ld 1 false false (.t 11)⟩,
        ⟨some 13, none, .mv false (.t 1)⟩,
        ⟨some 14, none, .app 1 1 (.t 12) (.t 13)⟩,
        ⟨some 15, none, .nck (.t 8)⟩,
        ⟨some 16, none, .fad 1 (.t 15)⟩,
        ⟨none, none, .sto 1 (.t 16) (.t 14)⟩])
      (.seq
       (.region [
         ⟨some 17, none, .mv false (.t 1)⟩,
         ⟨some 18, none, .len true (.t 17)⟩,
         ⟨some 4, none, .mv true (.t 18)⟩,
         ⟨some 5, none, .bad⟩])
       .ret)))⟩
theorem t41 : compF Try.prog {} 41 = some p41 := by kernel_rfl
def p42 : PFn :=
  ⟨14, [.t 2], .seq
    (.region [
      ⟨some 2, none, .mv true (.c (.str []))⟩])
    (.seq
     (.draw [
       ⟨some 3, none, .mv false (.t 0)⟩,
       ⟨some 4, none, .nck (.t 3)⟩,
       ⟨some 5, none, .fad 1 (.t 4)⟩,
       ⟨some 6, none, .ld 1 false false (.t 5)⟩,
       ⟨some 7, none, .bad⟩,
       ⟨some 8, none, .mv false (.t 0)⟩,
       ⟨some 9, none, .nck (.t 8)⟩,
       ⟨some 10, none, .fad 1 (.t 9)⟩,
       ⟨some 11, none, .ld 1 false false (.t 10)⟩,
       ⟨some 12, none, .len false (.t 11)⟩,
       ⟨some 13, none, .bad⟩,
       ⟨some 2, none, .mv true (.t 13)⟩] [])
     .ret)⟩
theorem t42 : compF Try.prog {} 42 = some p42 := by kernel_rfl
def p43 : PFn :=
  ⟨19, [.t 4], .seq
    (.region [
      ⟨some 4, none, .mv true (.c (.int .i64 0))⟩])
    (.seq
     (.seq
      (.region [
        ⟨some 6, none, .mv false (.t 0)⟩,
        ⟨some 7, none, .len false (.t 6)⟩,
        ⟨some 8, none, .mv false (.c (.int .i64 0))⟩])
      (.block 0
       (.loop
        (.seq
         (.region [
           ⟨some 9, none, .bin .lss (.t 8) (.t 7)⟩])
         (.seq
          (.cond (.t 9)
           .skip
           (.exit 0))
          (.seq
           (.block 1
            (.seq
             (.region [
               ⟨some 10, none, .mv true (.t 8)⟩,
               ⟨some 5, none, .mv true (.t 10)⟩])
             (.seq
              (.region [
                ⟨some 11, none, .mv false (.t 1)⟩,
                ⟨some 12, none, .mv false (.t 0)⟩,
                ⟨some 13, none, .mv false (.t 5)⟩,
                ⟨some 14, none, .iad 1 (.t 12) (.t 13)⟩,
                ⟨some 15, none, .ld 1 false false (.t 14)⟩,
                ⟨some 16, none, .callV (.t 11) [.t 15]⟩])
              (.cond (.t 16)
               (.seq
                (.region [
                  ⟨some 17, none, .mv true (.t 5)⟩,
                  ⟨some 4, none, .mv true (.t 17)⟩])
                .ret)
               .skip))))
           (.region [
             ⟨some 18, none, .bin .add (.t 8) (.c (.int .i64 1))⟩,
             ⟨some 8, none, .mv false (.t 18)⟩])))))))
     (.seq
      (.region [
        ⟨some 4, none, .mv true (.c (.int .i64 (-1)))⟩])
      .ret))⟩
theorem t43 : compF Try.prog {} 43 = some p43 := by kernel_rfl
def p45 : PFn :=
  ⟨30, [], .seq
    (.draw [
      ⟨some 5, none, .mv false (.t 0)⟩,
      ⟨some 6, none, .nck (.t 5)⟩,
      ⟨some 7, none, .fad 1 (.t 6)⟩,
      ⟨some 8, none, .ld 1 false false (.t 7)⟩,
      ⟨some 9, none, .cap (.t 8)⟩,
      ⟨some 10, none, .bin .mul (.c (.int .i64 2)) (.t 9)⟩,
      ⟨some 11, none, .mv false (.t 1)⟩,
      ⟨some 12, none, .bin .add (.t 10) (.t 11)⟩,
      ⟨some 13, none, .callF 47 [.t 12] []⟩,
      ⟨some 14, none, .mv false (.t 0)⟩,
      ⟨some 15, none, .nck (.t 14)⟩,
      ⟨some 16, none, .fad 1 (.t 15)⟩,
      ⟨some 17, none, .ld 1 false false (.t 16)⟩,
      ⟨some 18, none, .len false (.t 17)⟩,
      ⟨some 19, none, .sli 1 (.t 13) none (some (.t 18)) none⟩,
      ⟨some 4, none, .mv true (.t 19)⟩] [])
    (.seq
     (.region [
       ⟨some 20, none, .mv false (.t 4)⟩,
       ⟨some 21, none, .mv false (.t 0)⟩,
       ⟨some 22, none, .nck (.t 21)⟩,
       ⟨some 23, none, .fad 1 (.t 22)⟩,
       ⟨some 24, none, .ld 1 false false (.t 23)⟩,
       ⟨some 25, none, .cpy 1 (.t 20) (.t 24)⟩])
     (.region [
       ⟨some 26, none, .mv false (.t 0)⟩,
       ⟨some 27, none, .mv true (.t 4)⟩,
       ⟨some 28, none, .nck (.t 26)⟩,
       ⟨some 29, none, .fad 1 (.t 28)⟩,
       ⟨none, none, .sto 1 (.t 29) (.t 27)⟩]))⟩
theorem t45 : compF Try.prog {} 45 = some p45 := by kernel_rfl
def tab : List (Nat × PFn) := [(2, p2), (3, p3), (4, p4), (5, p5), (6, p6), (7, p7), (8, p8), (9, p9), (10, p10), (11, p11), (12, p12), (13, p13), (14, p14), (15, p15), (16, p16), (17, p17), (18, p18), (19, p19), (20, p20), (21, p21), (22, p22), (23, p23), (24, p24), (25, p25), (26, p26), (27, p27), (28, p28), (29, p29), (30, p30), (31, p31), (32, p32), (33, p33), (34, p34), (35, p35), (36, p36), (37, p37), (38, p38), (39, p39), (40, p40), (41, p41), (42, p42), (43, p43), (45, p45)]
theorem tabOk : TabOk Try.prog tab := .cons t2 <| .cons t3 <| .cons t4 <| .cons t5 <| .cons t6 <| .cons t7 <| .cons t8 <| .cons t9 <| .cons t10 <| .cons t11 <| .cons t12 <| .cons t13 <| .cons t14 <| .cons t15 <| .cons t16 <| .cons t17 <| .cons t18 <| .cons t19 <| .cons t20 <| .cons t21 <| .cons t22 <| .cons t23 <| .cons t24 <| .cons t25 <| .cons t26 <| .cons t27 <| .cons t28 <| .cons t29 <| .cons t30 <| .cons t31 <| .cons t32 <| .cons t33 <| .cons t34 <| .cons t35 <| .cons t36 <| .cons t37 <| .cons t38 <| .cons t39 <| .cons t40 <| .cons t41 <| .cons t42 <| .cons t43 <| .cons t45 <| .nil
theorem hmix : Try.prog.follows .mixedOrders = true := by kernel_rfl
theorem good (n d : Nat) : Good Try.prog (evF (tabOf tab) noPrim n d) := evF_sound hmix tabOk noPrim_good d
end Go.Proofs.Ytjbnomkajfmlpaa.E
/- Bytes as data: turned into strings, and cloned. -/
namespace Go.Proofs.Ytjbnomkajfmlpaa.E
open Go Go.RowKit Go.Proofs
set_option linter.unusedVariables false
set_option linter.unusedSimpArgs false
theorem ci_u8 (l : List Nat) : (ci l).map (PV.int .u8) = l.map u8 := by simp [ci, Function.comp_def, u8]
theorem ci_len (l : List Nat) : (ci l).length = l.length := List.length_map ..
attribute [simp] ci_u8 ci_len
theorem toInts_u8 : ∀ l : List Nat, toInts (l.map u8) = some (ci l)
  | [] => rfl
  | x :: l => by simp [toInts, toInts_u8 l, ci]
theorem norm_ci {l : List Nat} (hw : ∀ x ∈ l, x < 256) : (ci l).map norm8 = ci l := by
  simp only [ci, List.map_map]
  refine List.map_congr_left fun x hx => ?_
  have := hw x hx
  simp only [Function.comp_apply]
  exact norm8_of (by omega)
theorem cvS_u8 {s : Nat} {xs : List PV} {o : Bool} {l : List Nat} (hx : xs = l.map u8) (hs : s = 1 ∨ l.length = 0) (hw : ∀ x ∈ l, x < 256) : cvSP (.lst s xs o) = some (.str (ci l)) := by
  subst hx
  have h1 : s = 1 ∨ (l.map u8).isEmpty = true := hs.imp id fun h => by rw [List.length_eq_zero_iff.1 h]; rfl
  simp only [cvSP, if_pos h1, toInts_u8, Option.map_some, norm_ci hw]
theorem ci_iff {a b : List Nat} : ci a = ci b ↔ a = b := ⟨ci_inj, fun h => by rw [h]⟩
attribute [simp] ci_iff ci_nil
end Go.Proofs.Ytjbnomkajfmlpaa.E
/- The same texts, the same records. -/
namespace Go.Proofs.Ytjbnomkajfmlpaa.E
open Go Go.RowKit Go.Proofs
set_option linter.unusedVariables false
set_option linter.unusedSimpArgs false
theorem mixS : Try.prog.follows .mixedOrders = true := by kernel_rfl
def sV (t : List Nat) : PV := .str (ci t)
def rowsC (l : List (List (List Nat))) : List PV := l.map fun r => .lst 1 (r.map sV) false
theorem strsSame_ok {r : List (List Nat)} (hl : r.length ≤ 1000000) {o q : Bool} : PSpec Try.prog 27 [.lst 1 (r.map sV) o, .lst 1 (r.map sV) q] (.bool true) := by
  intro H
  have hmix := mixS
  refine spec_of t27 (by simp [p27]) ?_
  simp only [p27]
  first | refine pwp_sr ?_ | refine pwp_regionM ?_
  intro K hK
  simp (disch := first | (refine Ok.mk ?_; (try simp only [Lm, La, Lc, Ln, Lt, Ld, Lr, Li, true_or, or_true, true_and, and_true]); omega) | (simp <;> fail) | skip) [runM_nil]
  refine hK _ _ ?_
  clear hK K
  refine pwp_seq ?_
  first | refine pwp_sr ?_ | refine pwp_regionM ?_
  intro K hK
  simp (disch := first | (refine Ok.mk ?_; (try simp only [Lm, La, Lc, Ln, Lt, Ld, Lr, Li, true_or, or_true, true_and, and_true]); omega) | (simp <;> fail) | skip) [runM_nil]
  refine hK _ _ ?_
  clear hK K
  refine pwp_cF (by simp) (pwp_skip ?_)
  refine pwp_seq (pwp_seq ?_)
  first | refine pwp_sr ?_ | refine pwp_regionM ?_
  intro K hK
  simp (disch := first | (refine Ok.mk ?_; (try simp only [Lm, La, Lc, Ln, Lt, Ld, Lr, Li, true_or, or_true, true_and, and_true]); omega) | (simp <;> fail) | skip) [runM_nil]
  refine hK _ _ ?_
  clear hK K
  refine pwp_block ?_
  refine pwp_loopK [0, 1, 5] (fun m st H' => ∃ i, i ≤ r.length ∧ m = r.length - i ∧ H' = H ∧ st = MS 26 [(0, .lst 1 (r.map sV) o), (1, .lst 1 (r.map sV) q), (5, .int .i64 i)]) (n := r.length)
    ⟨_, .refl _, 0, Nat.zero_le _, rfl, rfl, by simp [keepL_MS, keepA, getS]⟩ ?_
  rintro m st H1 ⟨i, hi, rfl, rfl, rfl⟩
  by_cases hlt : i < r.length
  · have g1 : r[i]? = some r[i] := List.getElem?_eq_getElem hlt
    generalize r[i] = e at *
    refine pwp_seq ?_
    first | refine pwp_sr ?_ | refine pwp_regionM ?_
    intro K hK
    simp (disch := first | (refine Ok.mk ?_; (try simp only [Lm, La, Lc, Ln, Lt, Ld, Lr, Li, true_or, or_true, true_and, and_true]); omega) | (simp <;> fail) | skip) [runM_nil]
    refine hK _ _ ?_
    clear hK K
    refine pwp_cT (by simp) (pwp_skip ?_)
    refine pwp_seq (pwp_block ?_)
    first | refine pwp_sd hmix ?_ | refine pwp_drawM hmix ?_
    intro K hK
    simp (disch := first | (refine Ok.mk ?_; (try simp only [Lm, La, Lc, Ln, Lt, Ld, Lr, Li, true_or, or_true, true_and, and_true]); omega) | (simp <;> fail) | skip) [runM_nil, g1, sV, strP]
    refine hK _ _ ?_
    clear hK K
    refine pwp_cF (by simp) (pwp_skip ?_)
    first | refine pwp_sr ?_ | refine pwp_regionM ?_
    intro K hK
    simp (disch := first | (refine Ok.mk ?_; (try simp only [Lm, La, Lc, Ln, Lt, Ld, Lr, Li, true_or, or_true, true_and, and_true]); omega) | (simp <;> fail) | skip) [runM_nil]
    refine hK _ _ ?_
    clear hK K
    exact ⟨r.length - (i + 1), by omega, _, .refl _, i + 1, by omega, rfl, rfl, by simp [keepL_MS, keepA, getS]⟩
  · obtain rfl : i = r.length := by omega
    refine pwp_seq ?_
    first | refine pwp_sr ?_ | refine pwp_regionM ?_
    intro K hK
    simp (disch := first | (refine Ok.mk ?_; (try simp only [Lm, La, Lc, Ln, Lt, Ld, Lr, Li, true_or, or_true, true_and, and_true]); omega) | (simp <;> fail) | skip) [runM_nil]
    refine hK _ _ ?_
    clear hK K
    refine pwp_cF (by simp) (pwp_exit ?_)
    first | refine pwp_sr ?_ | refine pwp_regionM ?_
    intro K hK
    simp (disch := first | (refine Ok.mk ?_; (try simp only [Lm, La, Lc, Ln, Lt, Ld, Lr, Li, true_or, or_true, true_and, and_true]); omega) | (simp <;> fail) | skip) [runM_nil]
    refine hK _ _ ?_
    clear hK K
    refine pwp_ret ⟨.inr rfl, _, _, (by simp (disch := first | (refine Ok.mk ?_; (try simp only [Lm, La, Lc, Ln, Lt, Ld, Lr, Li, true_or, or_true, true_and, and_true]); omega) | (simp <;> fail) | skip) [runM_nil, resL]; rfl), .refl _, by simp (disch := first | (refine Ok.mk ?_; (try simp only [Lm, La, Lc, Ln, Lt, Ld, Lr, Li, true_or, or_true, true_and, and_true]); omega) | (simp <;> fail) | skip) [resV], rfl⟩
theorem recsSame_ok {l : List (List (List Nat))} (hl : l.length ≤ 1000000) (hr : ∀ r ∈ l, r.length ≤ 1000000) {o q : Bool} : PSpec Try.prog 18 [.lst 1 (rowsC l) o, .lst 1 (rowsC l) q] (.bool true) := by
  intro H
  have hmix := mixS
  have hrl : (rowsC l).length = l.length := by simp [rowsC]
  have hge : ∀ i (h : i < l.length), (rowsC l)[i]? = some (.lst 1 (l[i].map sV) false) := fun i h => by rw [rowsC, List.getElem?_map, List.getElem?_eq_getElem h]; rfl
  refine spec_of t18 (by simp [p18]) ?_
  simp only [p18]
  generalize rowsC l = es at *
  first | refine pwp_sr ?_ | refine pwp_regionM ?_
  intro K hK
  simp (disch := first | (refine Ok.mk ?_; (try simp only [Lm, La, Lc, Ln, Lt, Ld, Lr, Li, true_or, or_true, true_and, and_true]); omega) | (simp <;> fail) | skip) [runM_nil]
  refine hK _ _ ?_
  clear hK K
  refine pwp_seq ?_
  first | refine pwp_sr ?_ | refine pwp_regionM ?_
  intro K hK
  simp (disch := first | (refine Ok.mk ?_; (try simp only [Lm, La, Lc, Ln, Lt, Ld, Lr, Li, true_or, or_true, true_and, and_true]); omega) | (simp <;> fail) | skip) [runM_nil, hrl]
  refine hK _ _ ?_
  clear hK K
  refine pwp_cF (by simp) (pwp_skip ?_)
  refine pwp_seq (pwp_seq ?_)
  first | refine pwp_sr ?_ | refine pwp_regionM ?_
  intro K hK
  simp (disch := first | (refine Ok.mk ?_; (try simp only [Lm, La, Lc, Ln, Lt, Ld, Lr, Li, true_or, or_true, true_and, and_true]); omega) | (simp <;> fail) | skip) [runM_nil]
  refine hK _ _ ?_
  clear hK K
  refine pwp_block ?_
  refine pwp_loopK [0, 1, 5] (fun m st H' => ∃ i, i ≤ l.length ∧ m = l.length - i ∧ H' = H ∧ st = MS 27 [(0, .lst 1 es o), (1, .lst 1 es q), (5, .int .i64 i)]) (n := l.length)
    ⟨_, .refl _, 0, Nat.zero_le _, rfl, rfl, by simp [keepL_MS, keepA, getS]⟩ ?_
  rintro m st H1 ⟨i, hi, rfl, rfl, rfl⟩
  by_cases hlt : i < l.length
  · have g1 := hge i hlt
    have c := strsSame_ok (hr _ (List.getElem_mem hlt)) (o := false) (q := false)
    generalize l[i] = e at *
    refine pwp_seq ?_
    first | refine pwp_sr ?_ | refine pwp_regionM ?_
    intro K hK
    simp (disch := first | (refine Ok.mk ?_; (try simp only [Lm, La, Lc, Ln, Lt, Ld, Lr, Li, true_or, or_true, true_and, and_true]); omega) | (simp <;> fail) | skip) [runM_nil, hrl]
    refine hK _ _ ?_
    clear hK K
    refine pwp_cT (by simp) (pwp_skip ?_)
    refine pwp_seq (pwp_block ?_)
    first | refine pwp_sd hmix ?_ | refine pwp_drawM hmix ?_
    intro K hK
    simp (disch := first | (refine Ok.mk ?_; (try simp only [Lm, La, Lc, Ln, Lt, Ld, Lr, Li, true_or, or_true, true_and, and_true]); omega) | (simp <;> fail) | skip) [runM_nil, g1, hrl]
    refine useD (c) ?_
    simp (disch := first | (refine Ok.mk ?_; (try simp only [Lm, La, Lc, Ln, Lt, Ld, Lr, Li, true_or, or_true, true_and, and_true]); omega) | (simp <;> fail) | skip) [runM_nil, g1, hrl]
    refine hK _ _ ?_
    clear hK K
    refine pwp_cF (by simp) (pwp_skip ?_)
    first | refine pwp_sr ?_ | refine pwp_regionM ?_
    intro K hK
    simp (disch := first | (refine Ok.mk ?_; (try simp only [Lm, La, Lc, Ln, Lt, Ld, Lr, Li, true_or, or_true, true_and, and_true]); omega) | (simp <;> fail) | skip) [runM_nil]
    refine hK _ _ ?_
    clear hK K
    exact ⟨l.length - (i + 1), by omega, _, .refl _, i + 1, by omega, rfl, rfl, by simp [keepL_MS, keepA, getS]⟩
  · obtain rfl : i = l.length := by omega
    refine pwp_seq ?_
    first | refine pwp_sr ?_ | refine pwp_regionM ?_
    intro K hK
    simp (disch := first | (refine Ok.mk ?_; (try simp only [Lm, La, Lc, Ln, Lt, Ld, Lr, Li, true_or, or_true, true_and, and_true]); omega) | (simp <;> fail) | skip) [runM_nil, hrl]
    refine hK _ _ ?_
    clear hK K
    refine pwp_cF (by simp) (pwp_exit ?_)
    first | refine pwp_sr ?_ | refine pwp_regionM ?_
    intro K hK
    simp (disch := first | (refine Ok.mk ?_; (try simp only [Lm, La, Lc, Ln, Lt, Ld, Lr, Li, true_or, or_true, true_and, and_true]); omega) | (simp <;> fail) | skip) [runM_nil]
    refine hK _ _ ?_
    clear hK K
    refine pwp_ret ⟨.inr rfl, _, _, (by simp (disch := first | (refine Ok.mk ?_; (try simp only [Lm, La, Lc, Ln, Lt, Ld, Lr, Li, true_or, or_true, true_and, and_true]); omega) | (simp <;> fail) | skip) [runM_nil, resL]; rfl), .refl _, by simp (disch := first | (refine Ok.mk ?_; (try simp only [Lm, La, Lc, Ln, Lt, Ld, Lr, Li, true_or, or_true, true_and, and_true]); omega) | (simp <;> fail) | skip) [resV], rfl⟩
end Go.Proofs.Ytjbnomkajfmlpaa.E
/- Few: how many records there are, and of how many bytes. -/
namespace Go.Proofs.Ytjbnomkajfmlpaa.E
open Go Go.RowKit Go.Proofs
set_option linter.unusedVariables false
set_option linter.unusedSimpArgs false
/-- What the texts of a record count. -/
def recW (r : List (List Nat)) : Nat := (r.map fun t => 1 + t.length).sum
def fewN (l : List (List (List Nat))) : Nat := (l.map recW).sum
theorem sum_take_succ {α : Type} (f : α → Nat) (l : List α) (i : Nat) (h : i < l.length) : ((l.take (i + 1)).map f).sum = ((l.take i).map f).sum + f l[i] := by
  rw [List.take_succ_eq_append_getElem h]
  simp only [List.map_append, List.sum_append, List.map_cons, List.map_nil, List.sum_cons, List.sum_nil, Nat.add_zero]
theorem sum_take_le {α : Type} (f : α → Nat) (l : List α) (i : Nat) : ((l.take i).map f).sum ≤ (l.map f).sum := by
  conv => rhs; rw [← List.take_append_drop i l]
  simp only [List.map_append, List.sum_append]
  omega
theorem few_ok {l : List (List (List Nat))} {many long : Nat} (hl : l.length ≤ 1000000000000000) (hr : ∀ r ∈ l, r.length ≤ 1000000000000000) (ht : ∀ r ∈ l, ∀ t ∈ r, t.length ≤ 1000000000000000) (hm : many ≤ 1000000) (hg : long ≤ 1000000) {o : Bool} :
    PSpec Try.prog 10 [.lst 1 (rowsC l) o, .int .i64 many, .int .i64 long] (.bool (decide (fewN l ≤ long) && decide (l.length ≤ many))) := by
  intro H
  have hrl : (rowsC l).length = l.length := by simp [rowsC]
  have hge : ∀ i (h : i < l.length), (rowsC l)[i]? = some (.lst 1 (l[i].map sV) false) := fun i h => by rw [rowsC, List.getElem?_map, List.getElem?_eq_getElem h]; rfl
  refine spec_of t10 (by simp [p10]) ?_
  simp only [p10]
  generalize rowsC l = es at *
  first | refine pwp_sr ?_ | refine pwp_regionM ?_
  intro K hK
  simp (disch := first | (refine Ok.mk ?_; (try simp only [Lm, La, Lc, Ln, Lt, Ld, Lr, Li, true_or, or_true, true_and, and_true]); omega) | (simp <;> fail) | skip) [runM_nil]
  refine hK _ _ ?_
  clear hK K
  refine pwp_seq ?_
  first | refine pwp_sr ?_ | refine pwp_regionM ?_
  intro K hK
  simp (disch := first | (refine Ok.mk ?_; (try simp only [Lm, La, Lc, Ln, Lt, Ld, Lr, Li, true_or, or_true, true_and, and_true]); omega) | (simp <;> fail) | skip) [runM_nil]
  refine hK _ _ ?_
  clear hK K
  refine pwp_seq (pwp_seq ?_)
  first | refine pwp_sr ?_ | refine pwp_regionM ?_
  intro K hK
  simp (disch := first | (refine Ok.mk ?_; (try simp only [Lm, La, Lc, Ln, Lt, Ld, Lr, Li, true_or, or_true, true_and, and_true]); omega) | (simp <;> fail) | skip) [runM_nil]
  refine hK _ _ ?_
  clear hK K
  refine pwp_block ?_
  refine pwp_loopK [0, 1, 2, 7, 8] (fun q st H' => ∃ i, i ≤ l.length ∧ fewN (l.take i) ≤ long ∧ q = l.length - i ∧ H' = H ∧ st = MS 43 [(0, .lst 1 es o), (1, .int .i64 many), (2, .int .i64 long), (7, .int .i64 (fewN (l.take i) : Nat)), (8, .int .i64 i)]) (n := l.length)
    ⟨_, .refl _, 0, Nat.zero_le _, by simp [fewN], rfl, rfl, by simp [keepL_MS, keepA, getS, fewN]⟩ ?_
  rintro q st H1 ⟨i, hi, hn, rfl, rfl, rfl⟩
  by_cases hlt : i < l.length
  · have g1 := hge i hlt
    have hri : l[i].length ≤ 1000000000000000 := hr _ (List.getElem_mem hlt)
    have hti : ∀ t ∈ l[i], t.length ≤ 1000000000000000 := ht _ (List.getElem_mem hlt)
    have hs1 : fewN (l.take (i + 1)) = fewN (l.take i) + recW l[i] := sum_take_succ _ _ _ hlt
    have hs2 : fewN (l.take (i + 1)) ≤ fewN l := sum_take_le _ _ _
    generalize hrr : l[i] = r at *
    generalize fewN (l.take i) = N at *
    refine pwp_seq (pwp_seq ?_)
    first | refine pwp_sr ?_ | refine pwp_regionM ?_
    intro K hK
    simp (disch := first | (refine Ok.mk ?_; (try simp only [Lm, La, Lc, Ln, Lt, Ld, Lr, Li, true_or, or_true, true_and, and_true]); omega) | (simp <;> fail) | skip) [runM_nil]
    refine hK _ _ ?_
    clear hK K
    refine pwp_cT (by simp) (pwp_skip ?_)
    refine pwp_seq (pwp_block ?_)
    refine pwp_seq ?_
    first | refine pwp_sr ?_ | refine pwp_regionM ?_
    intro K hK
    simp (disch := first | (refine Ok.mk ?_; (try simp only [Lm, La, Lc, Ln, Lt, Ld, Lr, Li, true_or, or_true, true_and, and_true]); omega) | (simp <;> fail) | skip) [runM_nil]
    refine hK _ _ ?_
    clear hK K
    refine pwp_block ?_
    have gk : ∀ k (h : k < r.length), (r.map sV)[k]? = some (sV r[k]) := fun k h => by rw [List.getElem?_map, List.getElem?_eq_getElem h]; rfl
    have hml : (r.map sV).length = r.length := List.length_map _
    refine pwp_loopK [0, 1, 2, 7, 8, 9] (fun q st H' => ∃ k, k ≤ r.length ∧ N + recW (r.take k) ≤ long ∧ q = r.length - k ∧ H' = H1 ∧ st = MS 43 [(0, .lst 1 es o), (1, .int .i64 many), (2, .int .i64 long), (7, .int .i64 (N + recW (r.take k) : Nat)), (8, .int .i64 i), (9, .int .i64 k)]) (n := r.length)
      ⟨_, .refl _, 0, Nat.zero_le _, by simpa [recW] using hn, rfl, rfl, by simp [keepL_MS, keepA, getS, recW]⟩ ?_
    rintro q st H2 ⟨k, hk, hkn, rfl, hH2, rfl⟩
    subst hH2
    by_cases hkl : k < r.length
    · have g2 := gk k hkl
      have htk : r[k].length ≤ 1000000000000000 := hti _ (List.getElem_mem hkl)
      have hs3 : recW (r.take (k + 1)) = recW (r.take k) + (1 + r[k].length) := sum_take_succ _ _ _ hkl
      have hs4 : recW (r.take (k + 1)) ≤ recW r := sum_take_le _ _ _
      generalize r[k] = t at *
      generalize recW (r.take k) = M at *
      generalize r.map sV = ts at *
      have hcl : (ci t).length = t.length := by simp [ci]
      refine pwp_seq (pwp_seq ?_)
      first | refine pwp_sr ?_ | refine pwp_regionM ?_
      intro K hK
      simp (disch := first | (refine Ok.mk ?_; (try simp only [Lm, La, Lc, Ln, Lt, Ld, Lr, Li, true_or, or_true, true_and, and_true]); omega) | (simp <;> fail) | skip) [runM_nil, g1, hml]
      refine hK _ _ ?_
      clear hK K
      refine pwp_cT (by simp) (pwp_skip ?_)
      refine pwp_seq (pwp_block ?_)
      first | refine pwp_sr ?_ | refine pwp_regionM ?_
      intro K hK
      simp (disch := first | (refine Ok.mk ?_; (try simp only [Lm, La, Lc, Ln, Lt, Ld, Lr, Li, true_or, or_true, true_and, and_true]); omega) | (simp <;> fail) | skip) [runM_nil, g1, g2, sV, hcl]
      refine hK _ _ ?_
      clear hK K
      have e7 : ((N : Int) + M + 1 + t.length) = (N : Int) + (recW (r.take (k + 1)) : Nat) := by omega
      by_cases hbig : N + recW (r.take (k + 1)) ≤ long
      · refine pwp_seq ?_
        first | refine pwp_sr ?_ | refine pwp_regionM ?_
        intro K hK
        simp (disch := first | (refine Ok.mk ?_; (try simp only [Lm, La, Lc, Ln, Lt, Ld, Lr, Li, true_or, or_true, true_and, and_true]); omega) | (simp <;> fail) | skip) [runM_nil]
        refine hK _ _ ?_
        clear hK K
        refine pwp_cF (by simp <;> omega) (pwp_skip ?_)
        first | refine pwp_sr ?_ | refine pwp_regionM ?_
        intro K hK
        simp (disch := first | (refine Ok.mk ?_; (try simp only [Lm, La, Lc, Ln, Lt, Ld, Lr, Li, true_or, or_true, true_and, and_true]); omega) | (simp <;> fail) | skip) [runM_nil]
        refine hK _ _ ?_
        clear hK K
        refine ⟨r.length - (k + 1), by omega, _, .refl _, k + 1, by omega, hbig, rfl, rfl, ?_⟩
        simp [keepL_MS, keepA, getS, e7]
      · refine pwp_seq ?_
        first | refine pwp_sr ?_ | refine pwp_regionM ?_
        intro K hK
        simp (disch := first | (refine Ok.mk ?_; (try simp only [Lm, La, Lc, Ln, Lt, Ld, Lr, Li, true_or, or_true, true_and, and_true]); omega) | (simp <;> fail) | skip) [runM_nil]
        refine hK _ _ ?_
        clear hK K
        refine pwp_cT (by simp <;> omega) ?_
        refine pwp_seq ?_
        first | refine pwp_sr ?_ | refine pwp_regionM ?_
        intro K hK
        simp (disch := first | (refine Ok.mk ?_; (try simp only [Lm, La, Lc, Ln, Lt, Ld, Lr, Li, true_or, or_true, true_and, and_true]); omega) | (simp <;> fail) | skip) [runM_nil]
        refine hK _ _ ?_
        clear hK K
        refine pwp_ret ⟨.inr rfl, _, _, (by simp [runM_nil, resL]; rfl), .refl _, ?_, rfl⟩
        have : ¬ fewN l ≤ long := by omega
        simp [resV, this]
    · obtain rfl : k = r.length := by omega
      generalize hts : r.map sV = ts at *
      refine pwp_seq (pwp_seq ?_)
      first | refine pwp_sr ?_ | refine pwp_regionM ?_
      intro K hK
      simp (disch := first | (refine Ok.mk ?_; (try simp only [Lm, La, Lc, Ln, Lt, Ld, Lr, Li, true_or, or_true, true_and, and_true]); omega) | (simp <;> fail) | skip) [runM_nil, g1, hml]
      refine hK _ _ ?_
      clear hK K
      refine pwp_cF (by simp) (pwp_exit ?_)
      first | refine pwp_sr ?_ | refine pwp_regionM ?_
      intro K hK
      simp (disch := first | (refine Ok.mk ?_; (try simp only [Lm, La, Lc, Ln, Lt, Ld, Lr, Li, true_or, or_true, true_and, and_true]); omega) | (simp <;> fail) | skip) [runM_nil]
      refine hK _ _ ?_
      clear hK K
      have htk : r.take r.length = r := List.take_of_length_le (Nat.le_refl _)
      rw [htk] at hkn
      refine ⟨l.length - (i + 1), by omega, _, .refl _, i + 1, by omega, by omega, rfl, rfl, ?_⟩
      simp [keepL_MS, keepA, getS, hs1]
  · obtain rfl : i = l.length := by omega
    refine pwp_seq (pwp_seq ?_)
    first | refine pwp_sr ?_ | refine pwp_regionM ?_
    intro K hK
    simp (disch := first | (refine Ok.mk ?_; (try simp only [Lm, La, Lc, Ln, Lt, Ld, Lr, Li, true_or, or_true, true_and, and_true]); omega) | (simp <;> fail) | skip) [runM_nil]
    refine hK _ _ ?_
    clear hK K
    refine pwp_cF (by simp) (pwp_exit ?_)
    first | refine pwp_sr ?_ | refine pwp_regionM ?_
    intro K hK
    simp (disch := first | (refine Ok.mk ?_; (try simp only [Lm, La, Lc, Ln, Lt, Ld, Lr, Li, true_or, or_true, true_and, and_true]); omega) | (simp <;> fail) | skip) [runM_nil]
    refine hK _ _ ?_
    clear hK K
    have htk : l.take l.length = l := List.take_of_length_le (Nat.le_refl _)
    rw [htk] at hn
    refine pwp_ret ⟨.inr rfl, _, _, (by simp [runM_nil, resL]; rfl), .refl _, by simp [resV, hn, hrl], rfl⟩
end Go.Proofs.Ytjbnomkajfmlpaa.E
/- The contract of strings.Join of the kit's shelf, laid at this program (written by the kit's lay-shelf and lay-plain). -/
namespace Go.Proofs
open Go.Shelf
def Try.lays156_ren : Go.Shelf.Ren := ⟨fun | 156 => 37 | 165 => 40 | 166 => 41 | 169 => 42 | 240 => 44 | 241 => 45 | 276 => 46 | 277 => 47 | n => n, fun | 31 => 48 | 9 => 9 | 3 => 3 | 4 => 4 | 0 => 0 | 20 => 20 | 72 => 67 | 76 => 71 | 70 => 65 | 37 => 25 | 75 => 70 | 127 => 75 | 164 => 76 | 5 => 5 | 80 => 73 | n => n, fun | n => n⟩
theorem Try.lays156 : Go.Proofs.Lays.n156 Try.prog Try.lays156_ren := {
  mixed := by kernel_rfl
  f156 := Try.func37.trans (congrArg some (by kernel_rfl))
  f165 := Try.func40.trans (congrArg some (by kernel_rfl))
  f166 := Try.func41.trans (congrArg some (by kernel_rfl))
  f169 := Try.func42.trans (congrArg some (by kernel_rfl))
  f240 := Try.func44.trans (congrArg some (by kernel_rfl))
  f241 := Try.func45.trans (congrArg some (by kernel_rfl))
  f276 := Try.func46.trans (congrArg some (by kernel_rfl))
  f277 := Try.func47.trans (congrArg some (by kernel_rfl))
  t0 := Try.underlying0
  a0 := Try.isAgg0
  z0 := Try.sizeOf0
  v0 := Try.zeroValue0
  t3 := Try.underlying3
  a3 := Try.isAgg3
  z3 := Try.sizeOf3
  v3 := Try.zeroValue3
  t4 := Try.underlying4
  a4 := Try.isAgg4
  z4 := Try.sizeOf4
  v4 := Try.zeroValue4
  t9 := Try.underlying9
  a9 := Try.isAgg9
  z9 := Try.sizeOf9
  v9 := Try.zeroValue9
  t20 := Try.underlying20
  a20 := Try.isAgg20
  z20 := Try.sizeOf20
  v20 := Try.zeroValue20
  t31 := Try.underlying48
  a31 := Try.isAgg48
  z31 := Try.sizeOf48
  v31 := Try.zeroValue48
  t37 := Try.underlying25
  a37 := Try.isAgg25
  z37 := Try.sizeOf25
  v37 := Try.zeroValue25
  t70 := Try.underlying65
  a70 := Try.isAgg65
  z70 := Try.sizeOf65
  v70 := Try.zeroValue65
  t72 := Try.underlying67
  a72 := Try.isAgg67
  z72 := Try.sizeOf67
  v72 := Try.zeroValue67
  t75 := Try.underlying70
  a75 := Try.isAgg70
  z75 := Try.sizeOf70
  v75 := Try.zeroValue70
  t76 := Try.underlying71
  a76 := Try.isAgg71
  z76 := Try.sizeOf71
  v76 := Try.zeroValue71
  t127 := Try.underlying75
  a127 := Try.isAgg75
  z127 := Try.sizeOf75
  v127 := Try.zeroValue75
  t164 := Try.underlying76
  a164 := Try.isAgg76
  z164 := Try.sizeOf76
  v164 := Try.zeroValue76 }
theorem Try.Builder_Extra_156 : Builder.Extra Try.prog Try.lays156_ren := {
  sizeBuilder := by kernel_rfl
  liesBuilder := by kernel_rfl
  t5 := Try.underlying5
  a5 := Try.isAgg5
  z5 := Try.sizeOf5
  v5 := Try.zeroValue5
  infoByte := by kernel_rfl
  cellsByte := by kernel_rfl
  sizeByte := by kernel_rfl
  neB5 := by decide }
open Go.RowKit in
theorem Try.strings_Join_none (a : Option Addr) (c : Nat) (sep : ByteArray) (w : World) :
    Calls Try.prog 37 #[.slice a 0 c, .string sep] w fun e w' => e = .returned (.string ⟨#[]⟩) ∧ w' = w := Any.strings_Join_none Try.lays156 Try.Builder_Extra_156 a c sep w
open Go.RowKit in
theorem Try.strings_Join (bk o c : Nat) (xs : List ByteArray) (sep : ByteArray) (w : World) (hcells : ∀ (j : Nat) x, xs[j]? = some x → w.cell? ⟨bk, o + j, none⟩ = some (.string x)) (hbk : bk < w.heap.size) (hN : xs.length ≤ 140737488355328) (hcap : xs.length ≤ c) (hlen : (Lib.join (xs.map (·.data.toList)) sep.data.toList).length ≤ 140737488355328) :
    Calls Try.prog 37 #[.slice (some ⟨bk, o, none⟩) xs.length c, .string sep] w fun e w' => e = .returned (.string ⟨(Lib.join (xs.map (·.data.toList)) sep.data.toList).toArray⟩) ∧ Below w.heap.size w w' := Any.strings_Join Try.lays156 Try.Builder_Extra_156 bk o c xs sep w hcells hbk hN hcap hlen
end Go.Proofs
/- What a call that makes a value comes to, over the model itself. -/
namespace Go.Proofs.Ytjbnomkajfmlpaa.E
open Go Go.RowKit Go.Proofs
set_option linter.unusedVariables false
set_option linter.unusedSimpArgs false
/-- What a call that makes a value comes to. -/
theorem spec_step {P : Program} {f : Nat} {args : List PV} {r : PV} (hc : callable P f = true) (h : ∀ (out : List Nat) (w : World) (g : Ghost) (vals : Array Value), WRel out w g → VRl true w g args vals.toList →
    Calls P f vals w fun e w' => ∃ v g', e = .returned v ∧ Step [] w g w' g' r v) : PSpec P f args r := by
  refine fun H => ⟨trivial, fun out w g vals hw hH hV hun => .inl ⟨hc, (h out w g vals hw hV).mono ?_⟩⟩
  rintro e w' ⟨v, g', rfl, hs⟩
  have hlt : ∀ b f, g b = .tail f → b < w.heap.size := fun b f hf => hw.lt (by rw [hf]; simp)
  have hE : Evol (out ++ toksH w H) w g w' g' := hs.toStep0.evol (by simp) fun b hb => by
    refine ⟨?_, by simp⟩
    rcases List.mem_append.1 hb with hb | hb
    · obtain ⟨f, hf⟩ := hw.outT b hb; exact hlt b f hf
    · obtain ⟨f, hf⟩ := toksH_tail hH b hb; exact hlt b f hf
  have hm : ∀ b, g b = .mut → w'.heap[b]? = w.heap[b]? ∧ g' b = .mut := fun b hb => by
    obtain ⟨k1, k2⟩ := hs.old b (hw.lt (by rw [hb]; simp)) (by simp)
    exact ⟨k1, k2.trans hb⟩
  obtain ⟨hH', hT⟩ := HRel.keep hE hm hH (fun b hb => List.mem_append_right _ hb)
  refine ⟨v, r, H, g', rfl, ⟨rfl, rfl⟩, hs.toStep0.wrel hw (by simp), hH', hs.rv, fun b => ?_, hE.sub (fun b hb => List.mem_append_left _ hb)⟩
  rw [hT]
  have h1 := hun b
  have h2 := hs.rt b
  by_cases hb : b ∈ toks r v
  · rcases hs.rs b hb with hm | hm
    · cases hm
    · have z1 : (toksH w H).count b = 0 := count_mem_zero fun hh => by obtain ⟨f, hf⟩ := toksH_tail hH b hh; have := hlt b f hf; omega
      have z2 : out.count b = 0 := count_mem_zero fun hh => by obtain ⟨f, hf⟩ := hw.outT b hh; have := hlt b f hf; omega
      omega
  · have := count_mem_zero hb
    omega
end Go.Proofs.Ytjbnomkajfmlpaa.E
/- strings.Join without a separator: by the shelf's contract. -/
namespace Go.Proofs.Ytjbnomkajfmlpaa.E
open Go Go.RowKit Go.Proofs
set_option linter.unusedVariables false
set_option linter.unusedSimpArgs false
theorem strs_of {w : World} {g : Ghost} : ∀ {l : List (List Nat)} {vs : List Value}, VRe w g 1 (l.map sV) vs → ∃ ts : List ByteArray, vs = ts.map .string ∧ ts.map bytesOf = l.map ci
  | [], vs, h => ⟨[], h, rfl⟩
  | x :: l, vs, h => by
    obtain ⟨_, _, v, vs', rfl, ⟨t, rfl, ht⟩, h3⟩ := h
    obtain ⟨ts, rfl, h4⟩ := strs_of h3
    exact ⟨t :: ts, rfl, by simp [ht, h4]⟩
theorem bytesOf_join : ∀ {ts : List ByteArray} {l : List (List Nat)}, ts.map bytesOf = l.map ci → (Lib.join (ts.map (·.data.toList)) ([] : List UInt8)).map (fun c => (c.toNat : Int)) = ci l.flatten ∧ (Lib.join (ts.map (·.data.toList)) ([] : List UInt8)).length = l.flatten.length := by
  have e : ∀ xs : List (List UInt8), Lib.join xs [] = xs.flatten := fun xs => by
    cases xs with
    | nil => rfl
    | cons x r =>
      rw [Lib.join_cons, Lib.joinTail]
      simp
  intro ts l h
  rw [e]
  induction ts generalizing l with
  | nil => cases l with
    | nil => exact ⟨rfl, rfl⟩
    | cons x l => simp at h
  | cons t ts ih => cases l with
    | nil => simp at h
    | cons x l =>
      simp only [List.map_cons, List.cons.injEq] at h
      obtain ⟨i1, i2⟩ := ih h.2
      have h1 : (t.data.toList.map fun c => (c.toNat : Int)) = ci x := h.1
      have h2 : t.data.toList.length = x.length := by have := congrArg List.length h1; simpa [ci] using this
      simp only [List.map_cons, List.flatten_cons, List.map_append, List.length_append, i1, i2, h1, h2]
      simp [ci]
theorem join_ok {l : List (List Nat)} {s : Nat} {o : Bool} (hs : s = 1 ∨ l = []) (hl : l.length ≤ 1000000) (hn : l.flatten.length ≤ 1000000) : PSpec Try.prog 37 [.lst s (l.map sV) o, .str []] (.str (ci l.flatten)) := by
  refine spec_step (by kernel_rfl) ?_
  intro out w g vals hw hV
  obtain ⟨v, vs1, e1, hv, v2, vs2, e2, hv2, e3⟩ := hV
  obtain ⟨A, cap, rfl, h1, h2, h3, _⟩ := hv
  obtain ⟨t, rfl, ht⟩ := hv2
  subst e2
  have e3 : vs2 = [] := e3
  subst e3
  have ht0 : t = ⟨#[]⟩ := by
    have : t.data.toList = [] := by
      have : (t.data.toList.map fun c => (c.toNat : Int)) = [] := ht
      simpa using this
    obtain ⟨d⟩ := t
    simp at this
    rw [this]
  subst ht0
  have hvals : vals = #[.slice A (l.map sV).length cap, .string ⟨#[]⟩] := Array.toList_inj.1 (by simpa using e1)
  subst hvals
  have fin : ∀ (x : ByteArray) (w' : World), bytesOf x = ci l.flatten → Below w.heap.size w w' → ∃ v g', Ending.returned (.string x) = .returned v ∧ Step [] w g w' g' (.str (ci l.flatten)) v := fun x w' hx hB => by
    refine ⟨.string x, g, rfl, ⟨hB.os, hB.tape, hB.output, hB.size, fun b hb _ => ⟨hB.block b hb, rfl⟩, fun b hb => absurd hb (by simp), fun b hb => hw.fresh b (Nat.le_trans hB.size hb), fun b f hf h => ?_⟩, ⟨x, rfl, hx⟩, by simp [toks], by simp [toks]⟩
    rcases h with h | h
    · cases h
    · rw [hw.fresh b h] at hf
      cases hf
  by_cases hl0 : l = []
  · subst hl0
    refine (Try.strings_Join_none A cap ⟨#[]⟩ w).mono ?_
    rintro e w' ⟨rfl, rfl⟩
    exact fin _ _ rfl (Below.refl _ _)
  · have hs1 : s = 1 := hs.resolve_right hl0
    subst hs1
    rcases h3 with h3 | ⟨b, off, vs, rfl, hR, hE⟩
    · simp at h3
      exact absurd h3 hl0
    obtain ⟨ts, rfl, hts⟩ := strs_of hE
    have htl : ts.length = l.length := by have := congrArg List.length hts; simpa using this
    obtain ⟨b1, b2⟩ := bytesOf_join hts
    have hb : b < w.heap.size := by
      rcases hR.2 with h | ⟨c, e, fz, hc, _⟩
      · simp at h
        exact absurd h hl0
      · exact lt_of_heap hc
    have := Try.strings_Join b off cap ts ⟨#[]⟩ w (fun j x hx => hR.cell (by rw [List.getElem?_map, hx]; rfl)) hb (by omega) (by simpa [htl] using h1) (by simp only []; rw [show (([] : List UInt8)) = (⟨#[]⟩ : ByteArray).data.toList from rfl] at b2; rw [b2]; omega)
    rw [htl] at this
    simp only [List.length_map]
    refine this.mono ?_
    rintro e w' ⟨rfl, hB⟩
    exact fin _ _ (by simpa [bytesOf] using b1) hB
end Go.Proofs.Ytjbnomkajfmlpaa.E
/- Texts cut into fields of given widths: the program's and the document's. -/
namespace Go.Proofs.Ytjbnomkajfmlpaa.E
open Go Go.RowKit Go.Proofs
set_option linter.unusedVariables false
set_option linter.unusedSimpArgs false
def badW (n : Int) : Bool := decide (n < 0) || decide (1000 < n)
def mayW (l : List Int) : Bool := decide (1 ≤ l.length) && (decide (l.length ≤ 50) && !l.any badW)
def iV (n : Int) : PV := .int .i64 n
/-- The pieces of these widths, and what is left. -/
def cutL : List Nat → List Int → Option (List (List Nat) × List Nat)
  | s, [] => some ([], s)
  | s, n :: ws => if n.toNat > s.length then none else (cutL (s.drop n.toNat) ws).map fun p => (s.take n.toNat :: p.1, p.2)
def cellsB (s : List Nat) (ws : List Int) : List (List Nat) × Nat :=
  if mayW ws = false then ([], 1) else match cutL s ws with
    | none => ([], 2)
    | some (l, r) => if r = [] then (l, 0) else ([], 5)
def wholeB (r : List (List Nat)) (ws : List Int) : List Nat × Nat :=
  if mayW ws = false then ([], 1) else if r.map (fun t => (t.length : Int)) = ws then (r.flatten, 0) else ([], 10)
theorem bad_ok (n : Int) : PSpec Try.prog 38 [.int .i64 n] (.bool (badW n)) := by
  intro H
  refine spec_of t38 (by simp [p38]) ?_
  simp only [p38]
  first | refine pwp_sr ?_ | refine pwp_regionM ?_
  intro K hK
  simp (disch := first | (refine Ok.mk ?_; (try simp only [Lm, La, Lc, Ln, Lt, Ld, Lr, Li, true_or, or_true, true_and, and_true]); omega) | (simp <;> fail) | skip) [runM_nil]
  refine hK _ _ ?_
  clear hK K
  by_cases h : n < 0
  · first | refine pwp_sr ?_ | refine pwp_regionM ?_
    intro K hK
    simp (disch := first | (refine Ok.mk ?_; (try simp only [Lm, La, Lc, Ln, Lt, Ld, Lr, Li, true_or, or_true, true_and, and_true]); omega) | (simp <;> fail) | skip) [runM_nil, h]
    refine hK _ _ ?_
    clear hK K
    refine pwp_ret ⟨.inr rfl, _, _, (by simp [runM_nil, resL]; rfl), .refl _, by simp [resV, badW, h], rfl⟩
  · first | refine pwp_sr ?_ | refine pwp_regionM ?_
    intro K hK
    simp (disch := first | (refine Ok.mk ?_; (try simp only [Lm, La, Lc, Ln, Lt, Ld, Lr, Li, true_or, or_true, true_and, and_true]); omega) | (simp <;> fail) | skip) [runM_nil, h]
    refine hK _ _ ?_
    clear hK K
    refine pwp_ret ⟨.inr rfl, _, _, (by simp [runM_nil, resL]; rfl), .refl _, by simp [resV, badW, h], rfl⟩
theorem index_ok {l : List Int} (hl : l.length ≤ 1000000) {s : Nat} (hs : s = 1 ∨ l = []) {o : Bool} : ∃ r : Int, decide (0 ≤ r) = l.any badW ∧ PSpec Try.prog 43 [.lst s (l.map iV) o, .fn (.func 38) [] []] (.int .i64 r) := by
  refine ⟨if l.findIdx badW < l.length then (l.findIdx badW : Nat) else -1, ?_, ?_⟩
  · by_cases h : l.findIdx badW < l.length
    · rw [if_pos h]
      have := List.findIdx_lt_length.1 h
      have e : l.any badW = true := List.any_eq_true.2 this
      rw [e]
      simp
    · rw [if_neg h]
      have e : l.any badW = false := by
        rw [Bool.eq_false_iff]
        intro he
        exact h (List.findIdx_lt_length.2 (List.any_eq_true.1 he))
      rw [e]
      rfl
  intro H
  have hge : ∀ i (h : i < l.length), (l.map iV)[i]? = some (iV l[i]) := fun i h => by rw [List.getElem?_map, List.getElem?_eq_getElem h]; rfl
  have hml : (l.map iV).length = l.length := List.length_map _
  refine spec_of t43 (by simp [p43]) ?_
  simp only [p43]
  generalize l.map iV = es at *
  first | refine pwp_sr ?_ | refine pwp_regionM ?_
  intro K hK
  simp (disch := first | (refine Ok.mk ?_; (try simp only [Lm, La, Lc, Ln, Lt, Ld, Lr, Li, true_or, or_true, true_and, and_true]); omega) | (simp <;> fail) | skip) [runM_nil]
  refine hK _ _ ?_
  clear hK K
  refine pwp_seq (pwp_seq ?_)
  first | refine pwp_sr ?_ | refine pwp_regionM ?_
  intro K hK
  simp (disch := first | (refine Ok.mk ?_; (try simp only [Lm, La, Lc, Ln, Lt, Ld, Lr, Li, true_or, or_true, true_and, and_true]); omega) | (simp <;> fail) | skip) [runM_nil, hml]
  refine hK _ _ ?_
  clear hK K
  refine pwp_block ?_
  refine pwp_loopK [0, 1, 7, 8] (fun q st H' => ∃ i : Nat, i ≤ l.length ∧ i ≤ l.findIdx badW ∧ q = l.length - i ∧ H' = H ∧ st = MS 19 [(0, .lst s es o), (1, .fn (.func 38) [] []), (7, .int .i64 l.length), (8, .int .i64 i)]) (n := l.length)
    ⟨_, .refl _, 0, Nat.zero_le _, Nat.zero_le _, rfl, rfl, by simp [keepL_MS, keepA, getS]⟩ ?_
  rintro q st H' ⟨i, hi, hix, rfl, hH, rfl⟩
  subst hH
  by_cases hlt : i < l.length
  · have hg := hge i hlt
    have hs1 : s = 1 := hs.resolve_right (fun h => by subst h; simp at hlt)
    subst hs1
    have hlt' : (i : Int) < l.length := by omega
    have hstep : badW l[i] = true → l.findIdx badW = i := fun h => by
      refine Nat.le_antisymm ?_ hix
      refine Nat.le_of_not_lt fun hlt2 => ?_
      have := List.not_of_lt_findIdx (p := badW) (xs := l) (i := i) hlt2
      simp [h] at this
    have hnext : badW l[i] = false → i + 1 ≤ l.findIdx badW := fun h => by
      refine Nat.succ_le_of_lt (Nat.lt_of_le_of_ne hix fun he => ?_)
      have h1 : l.findIdx badW < l.length := by omega
      have := List.findIdx_getElem (p := badW) (xs := l) (w := h1)
      subst he
      simp [h] at this
    generalize l[i] = e at *
    have c := bad_ok e
    first | refine pwp_sr ?_ | refine pwp_regionM ?_
    intro K hK
    simp (disch := first | (refine Ok.mk ?_; (try simp only [Lm, La, Lc, Ln, Lt, Ld, Lr, Li, true_or, or_true, true_and, and_true]); omega) | (simp <;> fail) | skip) [runM_nil, hlt']
    refine hK _ _ ?_
    clear hK K
    refine pwp_seq (pwp_cT (by simp) (pwp_skip ?_))
    refine pwp_seq (pwp_block ?_)
    first | refine pwp_sr ?_ | refine pwp_regionM ?_
    intro K hK
    simp (disch := first | (refine Ok.mk ?_; (try simp only [Lm, La, Lc, Ln, Lt, Ld, Lr, Li, true_or, or_true, true_and, and_true]); omega) | (simp <;> fail) | skip) [runM_nil]
    refine hK _ _ ?_
    clear hK K
    cases he : badW e
    · rw [he] at c
      first | refine pwp_rif ?_ | refine pwp_rifE ?_
      intro K hK
      simp (disch := first | (refine Ok.mk ?_; (try simp only [Lm, La, Lc, Ln, Lt, Ld, Lr, Li, true_or, or_true, true_and, and_true]); omega) | (simp <;> fail) | skip) [runM_nil, hg, hml, iV]
      refine useP (c) ?_
      simp (disch := first | (refine Ok.mk ?_; (try simp only [Lm, La, Lc, Ln, Lt, Ld, Lr, Li, true_or, or_true, true_and, and_true]); omega) | (simp <;> fail) | skip) [runM_nil, hg, hml, iV]
      refine hK _ _ ?_
      clear hK K
      refine ifF (by simp [runM_nil]) (pwp_skip ?_)
      first | refine pwp_sr ?_ | refine pwp_regionM ?_
      intro K hK
      simp (disch := first | (refine Ok.mk ?_; (try simp only [Lm, La, Lc, Ln, Lt, Ld, Lr, Li, true_or, or_true, true_and, and_true]); omega) | (simp <;> fail) | skip) [runM_nil]
      refine hK _ _ ?_
      clear hK K
      exact ⟨l.length - (i + 1), by omega, _, .refl _, i + 1, by omega, hnext he, rfl, rfl, by simp [keepL_MS, keepA, getS]⟩
    · have hs1 := hstep he
      rw [he] at c
      first | refine pwp_rif ?_ | refine pwp_rifE ?_
      intro K hK
      simp (disch := first | (refine Ok.mk ?_; (try simp only [Lm, La, Lc, Ln, Lt, Ld, Lr, Li, true_or, or_true, true_and, and_true]); omega) | (simp <;> fail) | skip) [runM_nil, hg, hml, iV]
      refine useP (c) ?_
      simp (disch := first | (refine Ok.mk ?_; (try simp only [Lm, La, Lc, Ln, Lt, Ld, Lr, Li, true_or, or_true, true_and, and_true]); omega) | (simp <;> fail) | skip) [runM_nil, hg, hml, iV]
      refine hK _ _ ?_
      clear hK K
      refine ifT (by simp (disch := first | (refine Ok.mk ?_; (try simp only [Lm, La, Lc, Ln, Lt, Ld, Lr, Li, true_or, or_true, true_and, and_true]); omega) | (simp <;> fail) | skip) [runM_nil]) ?_
      first | refine pwp_sr ?_ | refine pwp_regionM ?_
      intro K hK
      simp (disch := first | (refine Ok.mk ?_; (try simp only [Lm, La, Lc, Ln, Lt, Ld, Lr, Li, true_or, or_true, true_and, and_true]); omega) | (simp <;> fail) | skip) [runM_nil]
      refine hK _ _ ?_
      clear hK K
      refine pwp_ret ⟨.inr rfl, _, _, (by simp [runM_nil, resL]; rfl), .refl _, by simp [resV, hs1, hlt], rfl⟩
  · obtain rfl : i = l.length := by omega
    have hn : ¬ l.findIdx badW < l.length := by omega
    first | refine pwp_sr ?_ | refine pwp_regionM ?_
    intro K hK
    simp (disch := first | (refine Ok.mk ?_; (try simp only [Lm, La, Lc, Ln, Lt, Ld, Lr, Li, true_or, or_true, true_and, and_true]); omega) | (simp <;> fail) | skip) [runM_nil]
    refine hK _ _ ?_
    clear hK K
    refine pwp_seq (pwp_cF (by simp) (pwp_exit ?_))
    first | refine pwp_sr ?_ | refine pwp_regionM ?_
    intro K hK
    simp (disch := first | (refine Ok.mk ?_; (try simp only [Lm, La, Lc, Ln, Lt, Ld, Lr, Li, true_or, or_true, true_and, and_true]); omega) | (simp <;> fail) | skip) [runM_nil]
    refine hK _ _ ?_
    clear hK K
    refine pwp_ret ⟨.inr rfl, _, _, (by simp [runM_nil, resL]; rfl), .refl _, by simp [resV, hn], rfl⟩
theorem may_ok {l : List Int} (hl : l.length ≤ 1000000) {s : Nat} (hs : s = 1 ∨ l = []) {o : Bool} : PSpec Try.prog 33 [.lst s (l.map iV) o] (.bool (mayW l)) := by
  intro H
  obtain ⟨r, hr, cI⟩ := index_ok (o := false) hl hs
  have cC : PSpec Try.prog 39 [.lst s (l.map iV) false, .fn (.func 38) [] []] (.bool (l.any badW)) := by
    intro H
    rw [← hr]
    have hml : (l.map iV).length = l.length := List.length_map _
    refine spec_of t39 (by simp [p39]) ?_
    simp only [p39]
    first | refine pwp_sr ?_ | refine pwp_regionM ?_
    intro K hK
    simp (disch := first | (refine Ok.mk ?_; (try simp only [Lm, La, Lc, Ln, Lt, Ld, Lr, Li, true_or, or_true, true_and, and_true]); omega) | (simp <;> fail) | skip) [runM_nil]
    refine hK _ _ ?_
    clear hK K
    first | refine pwp_sr ?_ | refine pwp_regionM ?_
    intro K hK
    simp (disch := first | (refine Ok.mk ?_; (try simp only [Lm, La, Lc, Ln, Lt, Ld, Lr, Li, true_or, or_true, true_and, and_true]); omega) | (simp <;> fail) | skip) [runM_nil]
    refine useP (cI) ?_
    simp (disch := first | (refine Ok.mk ?_; (try simp only [Lm, La, Lc, Ln, Lt, Ld, Lr, Li, true_or, or_true, true_and, and_true]); omega) | (simp <;> fail) | skip) [runM_nil]
    refine hK _ _ ?_
    clear hK K
    refine pwp_ret ⟨.inr rfl, _, _, (by simp [runM_nil, resL]; rfl), .refl _, by simp [resV], rfl⟩
  have hml : (l.map iV).length = l.length := List.length_map _
  refine spec_of t33 (by simp [p33]) ?_
  simp only [p33]
  generalize l.map iV = es at *
  first | refine pwp_sr ?_ | refine pwp_regionM ?_
  intro K hK
  simp (disch := first | (refine Ok.mk ?_; (try simp only [Lm, La, Lc, Ln, Lt, Ld, Lr, Li, true_or, or_true, true_and, and_true]); omega) | (simp <;> fail) | skip) [runM_nil]
  refine hK _ _ ?_
  clear hK K
  refine pwp_seq ?_
  first | refine pwp_sr ?_ | refine pwp_regionM ?_
  intro K hK
  simp (disch := first | (refine Ok.mk ?_; (try simp only [Lm, La, Lc, Ln, Lt, Ld, Lr, Li, true_or, or_true, true_and, and_true]); omega) | (simp <;> fail) | skip) [runM_nil]
  refine hK _ _ ?_
  clear hK K
  by_cases h1 : 1 ≤ l.length
  · by_cases h2 : l.length ≤ 50
    · first | refine pwp_sr ?_ | refine pwp_regionM ?_
      intro K hK
      simp (disch := first | (refine Ok.mk ?_; (try simp only [Lm, La, Lc, Ln, Lt, Ld, Lr, Li, true_or, or_true, true_and, and_true]); omega) | (simp <;> fail) | skip) [runM_nil, hml, h1, h2]
      refine useP (cC) ?_
      simp (disch := first | (refine Ok.mk ?_; (try simp only [Lm, La, Lc, Ln, Lt, Ld, Lr, Li, true_or, or_true, true_and, and_true]); omega) | (simp <;> fail) | skip) [runM_nil, hml, h1, h2]
      refine hK _ _ ?_
      clear hK K
      refine pwp_ret ⟨.inr rfl, _, _, (by simp [runM_nil, resL]; rfl), .refl _, by simp [resV, mayW, h1, h2], rfl⟩
    · have h2' : ¬ ((l.length : Int) ≤ 50) := by omega
      first | refine pwp_sr ?_ | refine pwp_regionM ?_
      intro K hK
      simp (disch := first | (refine Ok.mk ?_; (try simp only [Lm, La, Lc, Ln, Lt, Ld, Lr, Li, true_or, or_true, true_and, and_true]); omega) | (simp <;> fail) | skip) [runM_nil, hml, h1, h2']
      refine hK _ _ ?_
      clear hK K
      refine pwp_ret ⟨.inr rfl, _, _, (by simp [runM_nil, resL]; rfl), .refl _, by simp [resV, mayW, h1, h2], rfl⟩
  · have h1' : ¬ ((1 : Int) ≤ l.length) := by omega
    first | refine pwp_sr ?_ | refine pwp_regionM ?_
    intro K hK
    simp (disch := first | (refine Ok.mk ?_; (try simp only [Lm, La, Lc, Ln, Lt, Ld, Lr, Li, true_or, or_true, true_and, and_true]); omega) | (simp <;> fail) | skip) [runM_nil, hml, h1']
    refine hK _ _ ?_
    clear hK K
    refine pwp_ret ⟨.inr rfl, _, _, (by simp [runM_nil, resL]; rfl), .refl _, by simp [resV, mayW, h1], rfl⟩
end Go.Proofs.Ytjbnomkajfmlpaa.E
/- Cells and Whole, the program's and the document's. -/
namespace Go.Proofs.Ytjbnomkajfmlpaa.E
open Go Go.RowKit Go.Proofs
set_option linter.unusedVariables false
set_option linter.unusedSimpArgs false
theorem wids_ok {l : List Int} (hl : l.length ≤ 1000000) {s : Nat} (hs : s = 1 ∨ l = []) {o : Bool} : PSpec Try.prog 34 [.lst s (l.map iV) o] (.bool (mayW l)) := by
  intro H
  have hge : ∀ i (h : i < l.length), (l.map iV)[i]? = some (iV l[i]) := fun i h => by rw [List.getElem?_map, List.getElem?_eq_getElem h]; rfl
  have hml : (l.map iV).length = l.length := List.length_map _
  refine spec_of t34 (by simp [p34]) ?_
  simp only [p34]
  generalize l.map iV = es at *
  first | refine pwp_sr ?_ | refine pwp_regionM ?_
  intro K hK
  simp (disch := first | (refine Ok.mk ?_; (try simp only [Lm, La, Lc, Ln, Lt, Ld, Lr, Li, true_or, or_true, true_and, and_true]); omega) | (simp <;> fail) | skip) [runM_nil]
  refine hK _ _ ?_
  clear hK K
  by_cases h1 : l.length < 1
  · have h1' : (l.length : Int) < 1 := by omega
    have e : mayW l = false := by simp [mayW]; omega
    refine pwp_seq ?_
    first | refine pwp_rif ?_ | refine pwp_rifE ?_
    intro K hK
    simp (disch := first | (refine Ok.mk ?_; (try simp only [Lm, La, Lc, Ln, Lt, Ld, Lr, Li, true_or, or_true, true_and, and_true]); omega) | (simp <;> fail) | skip) [runM_nil, hml, h1']
    refine hK _ _ ?_
    clear hK K
    refine ifT (by simp [runM_nil, hml, h1']) ?_
    first | refine pwp_sr ?_ | refine pwp_regionM ?_
    intro K hK
    simp (disch := first | (refine Ok.mk ?_; (try simp only [Lm, La, Lc, Ln, Lt, Ld, Lr, Li, true_or, or_true, true_and, and_true]); omega) | (simp <;> fail) | skip) [runM_nil]
    refine hK _ _ ?_
    clear hK K
    refine pwp_retT ⟨.inr rfl, _, _, (by simp [runM_nil, resL]; rfl), .refl _, by simp [resV, e], rfl⟩
  · have h1' : ¬ (l.length : Int) < 1 := by omega
    by_cases h2 : 50 < l.length
    · have h2' : (50 : Int) < l.length := by omega
      have e : mayW l = false := by simp [mayW]; omega
      refine pwp_seq ?_
      first | refine pwp_rif ?_ | refine pwp_rifE ?_
      intro K hK
      simp (disch := first | (refine Ok.mk ?_; (try simp only [Lm, La, Lc, Ln, Lt, Ld, Lr, Li, true_or, or_true, true_and, and_true]); omega) | (simp <;> fail) | skip) [runM_nil, hml, h1', h2']
      refine hK _ _ ?_
      clear hK K
      refine ifT (by simp [runM_nil, hml, h1', h2']) ?_
      first | refine pwp_sr ?_ | refine pwp_regionM ?_
      intro K hK
      simp (disch := first | (refine Ok.mk ?_; (try simp only [Lm, La, Lc, Ln, Lt, Ld, Lr, Li, true_or, or_true, true_and, and_true]); omega) | (simp <;> fail) | skip) [runM_nil]
      refine hK _ _ ?_
      clear hK K
      refine pwp_retT ⟨.inr rfl, _, _, (by simp [runM_nil, resL]; rfl), .refl _, by simp [resV, e], rfl⟩
    · have h2' : ¬ (50 : Int) < l.length := by omega
      refine pwp_seq ?_
      first | refine pwp_rif ?_ | refine pwp_rifE ?_
      intro K hK
      simp (disch := first | (refine Ok.mk ?_; (try simp only [Lm, La, Lc, Ln, Lt, Ld, Lr, Li, true_or, or_true, true_and, and_true]); omega) | (simp <;> fail) | skip) [runM_nil, hml, h1', h2']
      refine hK _ _ ?_
      clear hK K
      refine ifF (by simp [runM_nil, hml, h1', h2']) (pwp_skip ?_)
      refine pwp_seq (pwp_seq ?_)
      first | refine pwp_sr ?_ | refine pwp_regionM ?_
      intro K hK
      simp (disch := first | (refine Ok.mk ?_; (try simp only [Lm, La, Lc, Ln, Lt, Ld, Lr, Li, true_or, or_true, true_and, and_true]); omega) | (simp <;> fail) | skip) [runM_nil]
      refine hK _ _ ?_
      clear hK K
      refine pwp_block ?_
      refine pwp_loopK [0, 3] (fun q st H' => ∃ i : Nat, i ≤ l.length ∧ (∀ x ∈ l.take i, badW x = false) ∧ q = l.length - i ∧ H' = H ∧ st = MS 30 [(0, .lst s es o), (3, .int .i64 i)]) (n := l.length)
        ⟨_, .refl _, 0, Nat.zero_le _, by simp, rfl, rfl, by simp [keepL_MS, keepA, getS]⟩ ?_
      rintro q st H' ⟨i, hi, hix, rfl, hH, rfl⟩
      subst hH
      by_cases hlt : i < l.length
      · have hg := hge i hlt
        have hs1 : s = 1 := hs.resolve_right (fun h => by subst h; simp at hlt)
        subst hs1
        have hlt' : (i : Int) < l.length := by omega
        have hmem : l[i] ∈ l := List.getElem_mem hlt
        have hts := List.take_succ_eq_append_getElem hlt
        generalize l[i] = e at *
        refine pwp_seq (pwp_seq ?_)
        first | refine pwp_sr ?_ | refine pwp_regionM ?_
        intro K hK
        simp (disch := first | (refine Ok.mk ?_; (try simp only [Lm, La, Lc, Ln, Lt, Ld, Lr, Li, true_or, or_true, true_and, and_true]); omega) | (simp <;> fail) | skip) [runM_nil, hml, hlt']
        refine hK _ _ ?_
        clear hK K
        refine pwp_cT (by simp) (pwp_skip ?_)
        refine pwp_seq (pwp_block ?_)
        simp only [iV] at hg
        have hbad : badW e = true → mayW l = false := fun h => by
          have : l.any badW = true := List.any_eq_true.2 ⟨e, hmem, h⟩
          simp [mayW, this]
        by_cases g1 : e < 0
        · first | refine pwp_rif ?_ | refine pwp_rifE ?_
          intro K hK
          simp (disch := first | (refine Ok.mk ?_; (try simp only [Lm, La, Lc, Ln, Lt, Ld, Lr, Li, true_or, or_true, true_and, and_true]); omega) | (simp <;> fail) | skip) [runM_nil, hg, g1]
          refine hK _ _ ?_
          clear hK K
          refine ifT (by simp [runM_nil, g1]) ?_
          first | refine pwp_sr ?_ | refine pwp_regionM ?_
          intro K hK
          simp (disch := first | (refine Ok.mk ?_; (try simp only [Lm, La, Lc, Ln, Lt, Ld, Lr, Li, true_or, or_true, true_and, and_true]); omega) | (simp <;> fail) | skip) [runM_nil]
          refine hK _ _ ?_
          clear hK K
          refine pwp_retB ⟨.inr rfl, _, _, (by simp [runM_nil, resL]; rfl), .refl _, by simp [resV, hbad (by simp [badW, g1])], rfl⟩
        · by_cases g2 : 1000 < e
          · first | refine pwp_rif ?_ | refine pwp_rifE ?_
            intro K hK
            simp (disch := first | (refine Ok.mk ?_; (try simp only [Lm, La, Lc, Ln, Lt, Ld, Lr, Li, true_or, or_true, true_and, and_true]); omega) | (simp <;> fail) | skip) [runM_nil, hg, g1, g2]
            refine hK _ _ ?_
            clear hK K
            refine ifT (by simp [runM_nil, g1, g2]) ?_
            first | refine pwp_sr ?_ | refine pwp_regionM ?_
            intro K hK
            simp (disch := first | (refine Ok.mk ?_; (try simp only [Lm, La, Lc, Ln, Lt, Ld, Lr, Li, true_or, or_true, true_and, and_true]); omega) | (simp <;> fail) | skip) [runM_nil]
            refine hK _ _ ?_
            clear hK K
            refine pwp_retB ⟨.inr rfl, _, _, (by simp [runM_nil, resL]; rfl), .refl _, by simp [resV, hbad (by simp [badW, g2])], rfl⟩
          · first | refine pwp_rif ?_ | refine pwp_rifE ?_
            intro K hK
            simp (disch := first | (refine Ok.mk ?_; (try simp only [Lm, La, Lc, Ln, Lt, Ld, Lr, Li, true_or, or_true, true_and, and_true]); omega) | (simp <;> fail) | skip) [runM_nil, hg, g1, g2]
            refine hK _ _ ?_
            clear hK K
            refine ifF (by simp [runM_nil, g1, g2]) (pwp_skip ?_)
            first | refine pwp_sr ?_ | refine pwp_regionM ?_
            intro K hK
            simp (disch := first | (refine Ok.mk ?_; (try simp only [Lm, La, Lc, Ln, Lt, Ld, Lr, Li, true_or, or_true, true_and, and_true]); omega) | (simp <;> fail) | skip) [runM_nil]
            refine hK _ _ ?_
            clear hK K
            refine ⟨l.length - (i + 1), by omega, _, .refl _, i + 1, by omega, fun x hx => ?_, rfl, rfl, by simp [keepL_MS, keepA, getS]⟩
            rw [hts] at hx
            rcases List.mem_append.1 hx with hx | hx
            · exact hix x hx
            · obtain rfl : x = e := by simpa using hx
              simp [badW, g1, g2]
      · obtain rfl : i = l.length := by omega
        rw [List.take_length] at hix
        have e : mayW l = true := by
          have : l.any badW = false := by
            rw [Bool.eq_false_iff]
            intro h
            obtain ⟨x, hx, hb⟩ := List.any_eq_true.1 h
            rw [hix x hx] at hb
            cases hb
          simp [mayW, this]
          omega
        refine pwp_seq (pwp_seq ?_)
        first | refine pwp_sr ?_ | refine pwp_regionM ?_
        intro K hK
        simp (disch := first | (refine Ok.mk ?_; (try simp only [Lm, La, Lc, Ln, Lt, Ld, Lr, Li, true_or, or_true, true_and, and_true]); omega) | (simp <;> fail) | skip) [runM_nil, hml]
        refine hK _ _ ?_
        clear hK K
        refine pwp_cF (by simp) (pwp_exit ?_)
        first | refine pwp_sr ?_ | refine pwp_regionM ?_
        intro K hK
        simp (disch := first | (refine Ok.mk ?_; (try simp only [Lm, La, Lc, Ln, Lt, Ld, Lr, Li, true_or, or_true, true_and, and_true]); omega) | (simp <;> fail) | skip) [runM_nil]
        refine hK _ _ ?_
        clear hK K
        refine pwp_ret ⟨.inr rfl, _, _, (by simp [runM_nil, resL]; rfl), .refl _, by simp [resV, e], rfl⟩
theorem may_nat {l : List Int} (h : mayW l = true) : ∀ x ∈ l, 0 ≤ x ∧ x ≤ 1000 := fun x hx => by
  simp only [mayW, Bool.and_eq_true, Bool.not_eq_true'] at h
  have h3 := h.2.2
  rw [List.any_eq_false] at h3
  have := h3 x hx
  simp [badW] at this
  omega
theorem cells_ok {l : List Int} (hl : l.length ≤ 1000000) {s : Nat} (hs : s = 1 ∨ l = []) {o : Bool} (t : List Nat) (ht : t.length ≤ 1000000000000000) :
    PSpec Try.prog 23 [.str (ci t), .lst s (l.map iV) o] (.tup [.lst 1 ((cellsB t l).1.map sV) true, .int .i64 ((cellsB t l).2 : Nat)]) := by
  intro H
  have hge : ∀ i (h : i < l.length), (l.map iV)[i]? = some (iV l[i]) := fun i h => by rw [List.getElem?_map, List.getElem?_eq_getElem h]; rfl
  have hml : (l.map iV).length = l.length := List.length_map _
  have c := may_ok (o := false) hl hs
  have hmix := mixS
  refine spec_ofU t23 (by simp [p23]) ?_
  simp only [p23]
  generalize l.map iV = es at *
  first | refine pwp_sr ?_ | refine pwp_regionM ?_
  intro K hK
  simp (disch := first | (refine Ok.mk ?_; (try simp only [Lm, La, Lc, Ln, Lt, Ld, Lr, Li, true_or, or_true, true_and, and_true]); omega) | (simp <;> fail) | skip) [runM_nil]
  refine hK _ _ ?_
  clear hK K
  unfold cellsB
  cases hm : mayW l
  · rw [hm] at c
    refine pwp_seq ?_
    first | refine pwp_rif ?_ | refine pwp_rifE ?_
    intro K hK
    simp (disch := first | (refine Ok.mk ?_; (try simp only [Lm, La, Lc, Ln, Lt, Ld, Lr, Li, true_or, or_true, true_and, and_true]); omega) | (simp <;> fail) | skip) [runM_nil]
    refine useP (c) ?_
    simp (disch := first | (refine Ok.mk ?_; (try simp only [Lm, La, Lc, Ln, Lt, Ld, Lr, Li, true_or, or_true, true_and, and_true]); omega) | (simp <;> fail) | skip) [runM_nil]
    refine hK _ _ ?_
    clear hK K
    refine ifT (by simp [runM_nil]) ?_
    first | refine pwp_sr ?_ | refine pwp_regionM ?_
    intro K hK
    simp (disch := first | (refine Ok.mk ?_; (try simp only [Lm, La, Lc, Ln, Lt, Ld, Lr, Li, true_or, or_true, true_and, and_true]); omega) | (simp <;> fail) | skip) [runM_nil]
    refine hK _ _ ?_
    clear hK K
    refine pwp_retT ⟨.inr rfl, _, _, _, (by simp [runM_nil, resL]; rfl), .refl _, by simp [resV], rfl, rfl⟩
  · rw [hm] at c
    have hnat := may_nat hm
    refine pwp_seq ?_
    first | refine pwp_rif ?_ | refine pwp_rifE ?_
    intro K hK
    simp (disch := first | (refine Ok.mk ?_; (try simp only [Lm, La, Lc, Ln, Lt, Ld, Lr, Li, true_or, or_true, true_and, and_true]); omega) | (simp <;> fail) | skip) [runM_nil]
    refine useP (c) ?_
    simp (disch := first | (refine Ok.mk ?_; (try simp only [Lm, La, Lc, Ln, Lt, Ld, Lr, Li, true_or, or_true, true_and, and_true]); omega) | (simp <;> fail) | skip) [runM_nil]
    refine hK _ _ ?_
    clear hK K
    refine ifF (by simp [runM_nil]) (pwp_skip ?_)
    rw [if_neg (by simp)]
    first | refine pwp_sr ?_ | refine pwp_regionM ?_
    intro K hK
    simp (disch := first | (refine Ok.mk ?_; (try simp only [Lm, La, Lc, Ln, Lt, Ld, Lr, Li, true_or, or_true, true_and, and_true]); omega) | (simp <;> fail) | skip) [runM_nil]
    refine hK _ _ ?_
    clear hK K
    refine pwp_seq (pwp_seq ?_)
    first | refine pwp_sr ?_ | refine pwp_regionM ?_
    intro K hK
    simp (disch := first | (refine Ok.mk ?_; (try simp only [Lm, La, Lc, Ln, Lt, Ld, Lr, Li, true_or, or_true, true_and, and_true]); omega) | (simp <;> fail) | skip) [runM_nil, hml]
    refine hK _ _ ?_
    clear hK K
    refine pwp_block ?_
    refine pwp_loopU [0, 6, 12, 13, 14] (fun q st H' => ∃ (i : Nat) (r : List Nat) (acc : List (List Nat)), i ≤ l.length ∧ r.length ≤ t.length ∧ acc.length ≤ i ∧ cutL t l = (cutL r (l.drop i)).map (fun p => (acc ++ p.1, p.2)) ∧ q = l.length - i ∧ H' = H ∧
        st = MS 35 [(0, .str (ci r)), (6, .lst 1 (acc.map sV) true), (12, .lst s es false), (13, .int .i64 l.length), (14, .int .i64 i)]) (n := l.length)
      ⟨_, _, keep_up (l' := [(0, .str (ci t)), (6, .lst 1 [] true), (12, .lst s es false), (13, .int .i64 l.length), (14, .int .i64 0)]) (by simp), List.Sublist.refl _, 0, t, [], Nat.zero_le _, Nat.le_refl _, Nat.le_refl _, by simp, rfl, rfl, by simp⟩ ?_
    rintro q st H' ⟨i, r, acc, hi, hrl, hal, hcut, rfl, hH, rfl⟩
    subst hH
    have hrc := ci_len r
    by_cases hlt : i < l.length
    · have hg := hge i hlt
      have hs1 : s = 1 := hs.resolve_right (fun h => by subst h; simp at hlt)
      subst hs1
      have hlt' : (i : Int) < l.length := by omega
      have hn := hnat _ (List.getElem_mem hlt)
      rw [List.drop_eq_getElem_cons hlt] at hcut
      generalize l[i] = e at *
      simp only [iV] at hg
      obtain ⟨n, rfl⟩ : ∃ n : Nat, e = n := ⟨e.toNat, by omega⟩
      simp only [cutL, Int.toNat_natCast] at hcut
      first | refine pwp_sr ?_ | refine pwp_regionM ?_
      intro K hK
      simp (disch := first | (refine Ok.mk ?_; (try simp only [Lm, La, Lc, Ln, Lt, Ld, Lr, Li, true_or, or_true, true_and, and_true]); omega) | (simp <;> fail) | skip) [runM_nil, hlt']
      refine hK _ _ ?_
      clear hK K
      refine pwp_seq (pwp_cT (by simp) (pwp_skip ?_))
      refine pwp_seq (pwp_block ?_)
      first | refine pwp_sr ?_ | refine pwp_regionM ?_
      intro K hK
      simp (disch := first | (refine Ok.mk ?_; (try simp only [Lm, La, Lc, Ln, Lt, Ld, Lr, Li, true_or, or_true, true_and, and_true]); omega) | (simp <;> fail) | skip) [runM_nil, hg, hml]
      refine hK _ _ ?_
      clear hK K
      by_cases hc : r.length < n
      · have hc' : (r.length : Int) < n := by omega
        rw [if_pos hc] at hcut
        refine pwp_seq ?_
        first | refine pwp_rif ?_ | refine pwp_rifE ?_
        intro K hK
        simp (disch := first | (refine Ok.mk ?_; (try simp only [Lm, La, Lc, Ln, Lt, Ld, Lr, Li, true_or, or_true, true_and, and_true]); omega) | (simp <;> fail) | skip) [runM_nil, hrc, hc']
        refine hK _ _ ?_
        clear hK K
        refine ifT (by simp [runM_nil, hrc, hc']) ?_
        first | refine pwp_sr ?_ | refine pwp_regionM ?_
        intro K hK
        simp (disch := first | (refine Ok.mk ?_; (try simp only [Lm, La, Lc, Ln, Lt, Ld, Lr, Li, true_or, or_true, true_and, and_true]); omega) | (simp <;> fail) | skip) [runM_nil]
        refine hK _ _ ?_
        clear hK K
        refine pwp_retT ⟨.inr rfl, _, _, _, (by simp [runM_nil, resL]; rfl), .refl _, by simp [resV, hcut], rfl, rfl⟩
      · have hc' : ¬ (r.length : Int) < n := by omega
        rw [if_neg hc, Option.map_map] at hcut
        refine pwp_seq ?_
        first | refine pwp_rif ?_ | refine pwp_rifE ?_
        intro K hK
        simp (disch := first | (refine Ok.mk ?_; (try simp only [Lm, La, Lc, Ln, Lt, Ld, Lr, Li, true_or, or_true, true_and, and_true]); omega) | (simp <;> fail) | skip) [runM_nil, hrc, hc']
        refine hK _ _ ?_
        clear hK K
        refine ifF (by simp [runM_nil, hrc, hc']) (pwp_skip ?_)
        first | refine pwp_sd hmix ?_ | refine pwp_drawM hmix ?_
        intro K hK
        simp (disch := first | (refine Ok.mk ?_; (try simp only [Lm, La, Lc, Ln, Lt, Ld, Lr, Li, true_or, or_true, true_and, and_true]); omega) | (simp <;> fail) | skip) [runM_nil, hrc, ci_take, ci_drop]
        refine hK _ _ ?_
        clear hK K
        first | refine pwp_sr ?_ | refine pwp_regionM ?_
        intro K hK
        simp (disch := first | (refine Ok.mk ?_; (try simp only [Lm, La, Lc, Ln, Lt, Ld, Lr, Li, true_or, or_true, true_and, and_true]); omega) | (simp <;> fail) | skip) [runM_nil]
        refine hK _ _ ?_
        clear hK K
        refine ⟨l.length - (i + 1), by omega, _, _, keep_up (l' := [(0, .str (ci (r.drop n))), (6, .lst 1 ((acc ++ [r.take n]).map sV) true), (12, .lst 1 es false), (13, .int .i64 l.length), (14, .int .i64 ((i : Int) + 1))]) (by simp [sV]), List.Sublist.refl _, i + 1, r.drop n, acc ++ [r.take n], by omega, by simp; omega, by simp; omega, ?_, rfl, rfl, by simp⟩
        rw [hcut]
        congr 1
        funext p
        simp
    · obtain rfl : i = l.length := by omega
      rw [List.drop_length] at hcut
      simp only [cutL, Option.map_some, List.append_nil] at hcut
      first | refine pwp_sr ?_ | refine pwp_regionM ?_
      intro K hK
      simp (disch := first | (refine Ok.mk ?_; (try simp only [Lm, La, Lc, Ln, Lt, Ld, Lr, Li, true_or, or_true, true_and, and_true]); omega) | (simp <;> fail) | skip) [runM_nil]
      refine hK _ _ ?_
      clear hK K
      refine pwp_seq (pwp_cF (by simp) (pwp_exit ?_))
      rw [hcut]
      by_cases hr : r = []
      · subst hr
        have e0 : ci [] = [] := rfl
        refine pwp_seq ?_
        first | refine pwp_rif ?_ | refine pwp_rifE ?_
        intro K hK
        simp (disch := first | (refine Ok.mk ?_; (try simp only [Lm, La, Lc, Ln, Lt, Ld, Lr, Li, true_or, or_true, true_and, and_true]); omega) | (simp <;> fail) | skip) [runM_nil, e0]
        refine hK _ _ ?_
        clear hK K
        refine ifF (by simp [runM_nil, strP, e0]) (pwp_skip ?_)
        first | refine pwp_sr ?_ | refine pwp_regionM ?_
        intro K hK
        simp (disch := first | (refine Ok.mk ?_; (try simp only [Lm, La, Lc, Ln, Lt, Ld, Lr, Li, true_or, or_true, true_and, and_true]); omega) | (simp <;> fail) | skip) [runM_nil]
        refine hK _ _ ?_
        clear hK K
        refine pwp_ret ⟨.inr rfl, _, _, _, (by simp [runM_nil, resL]; rfl), .refl _, by simp [resV], rfl, rfl⟩
      · have e0 : ¬ ci r = [] := by simpa [ci] using hr
        refine pwp_seq ?_
        first | refine pwp_rif ?_ | refine pwp_rifE ?_
        intro K hK
        simp (disch := first | (refine Ok.mk ?_; (try simp only [Lm, La, Lc, Ln, Lt, Ld, Lr, Li, true_or, or_true, true_and, and_true]); omega) | (simp <;> fail) | skip) [runM_nil, strP, e0]
        refine hK _ _ ?_
        clear hK K
        refine ifT (by simp [runM_nil, strP, e0]) ?_
        first | refine pwp_sr ?_ | refine pwp_regionM ?_
        intro K hK
        simp (disch := first | (refine Ok.mk ?_; (try simp only [Lm, La, Lc, Ln, Lt, Ld, Lr, Li, true_or, or_true, true_and, and_true]); omega) | (simp <;> fail) | skip) [runM_nil]
        refine hK _ _ ?_
        clear hK K
        refine pwp_retT ⟨.inr rfl, _, _, _, (by simp [runM_nil, resL]; rfl), .refl _, by simp [resV, hr], rfl, rfl⟩
end Go.Proofs.Ytjbnomkajfmlpaa.E
/- The document's Cells; Whole, the program's and the document's. -/
namespace Go.Proofs.Ytjbnomkajfmlpaa.E
open Go Go.RowKit Go.Proofs
set_option linter.unusedVariables false
set_option linter.unusedSimpArgs false
theorem rcells_ok {l : List Int} (hl : l.length ≤ 1000000) {s : Nat} (hs : s = 1 ∨ l = []) {o : Bool} (t : List Nat) (ht : t.length ≤ 1000000000000000) :
    PSpec Try.prog 24 [.str (ci t), .lst s (l.map iV) o] (.tup [.lst 1 ((cellsB t l).1.map sV) true, .int .i64 ((cellsB t l).2 : Nat)]) := by
  intro H
  have hge : ∀ i (h : i < l.length), (l.map iV)[i]? = some (iV l[i]) := fun i h => by rw [List.getElem?_map, List.getElem?_eq_getElem h]; rfl
  have hml : (l.map iV).length = l.length := List.length_map _
  have c := wids_ok (o := false) hl hs
  have hmix := mixS
  refine spec_ofU t24 (by simp [p24]) ?_
  simp only [p24]
  generalize l.map iV = es at *
  first | refine pwp_sr ?_ | refine pwp_regionM ?_
  intro K hK
  simp (disch := first | (refine Ok.mk ?_; (try simp only [Lm, La, Lc, Ln, Lt, Ld, Lr, Li, true_or, or_true, true_and, and_true]); omega) | (simp <;> fail) | skip) [runM_nil]
  refine hK _ _ ?_
  clear hK K
  unfold cellsB
  cases hm : mayW l
  · rw [hm] at c
    refine pwp_seq ?_
    first | refine pwp_rif ?_ | refine pwp_rifE ?_
    intro K hK
    simp (disch := first | (refine Ok.mk ?_; (try simp only [Lm, La, Lc, Ln, Lt, Ld, Lr, Li, true_or, or_true, true_and, and_true]); omega) | (simp <;> fail) | skip) [runM_nil]
    refine useP (c) ?_
    simp (disch := first | (refine Ok.mk ?_; (try simp only [Lm, La, Lc, Ln, Lt, Ld, Lr, Li, true_or, or_true, true_and, and_true]); omega) | (simp <;> fail) | skip) [runM_nil]
    refine hK _ _ ?_
    clear hK K
    refine ifT (by simp [runM_nil]) ?_
    first | refine pwp_sr ?_ | refine pwp_regionM ?_
    intro K hK
    simp (disch := first | (refine Ok.mk ?_; (try simp only [Lm, La, Lc, Ln, Lt, Ld, Lr, Li, true_or, or_true, true_and, and_true]); omega) | (simp <;> fail) | skip) [runM_nil]
    refine hK _ _ ?_
    clear hK K
    refine pwp_retT ⟨.inr rfl, _, _, _, (by simp [runM_nil, resL]; rfl), .refl _, by simp [resV], rfl, rfl⟩
  · rw [hm] at c
    have hnat := may_nat hm
    refine pwp_seq ?_
    first | refine pwp_rif ?_ | refine pwp_rifE ?_
    intro K hK
    simp (disch := first | (refine Ok.mk ?_; (try simp only [Lm, La, Lc, Ln, Lt, Ld, Lr, Li, true_or, or_true, true_and, and_true]); omega) | (simp <;> fail) | skip) [runM_nil]
    refine useP (c) ?_
    simp (disch := first | (refine Ok.mk ?_; (try simp only [Lm, La, Lc, Ln, Lt, Ld, Lr, Li, true_or, or_true, true_and, and_true]); omega) | (simp <;> fail) | skip) [runM_nil]
    refine hK _ _ ?_
    clear hK K
    refine ifF (by simp [runM_nil]) (pwp_skip ?_)
    rw [if_neg (by simp)]
    first | refine pwp_sr ?_ | refine pwp_regionM ?_
    intro K hK
    simp (disch := first | (refine Ok.mk ?_; (try simp only [Lm, La, Lc, Ln, Lt, Ld, Lr, Li, true_or, or_true, true_and, and_true]); omega) | (simp <;> fail) | skip) [runM_nil]
    refine hK _ _ ?_
    clear hK K
    refine pwp_seq (pwp_seq ?_)
    first | refine pwp_sr ?_ | refine pwp_regionM ?_
    intro K hK
    simp (disch := first | (refine Ok.mk ?_; (try simp only [Lm, La, Lc, Ln, Lt, Ld, Lr, Li, true_or, or_true, true_and, and_true]); omega) | (simp <;> fail) | skip) [runM_nil]
    refine hK _ _ ?_
    clear hK K
    refine pwp_block ?_
    refine pwp_loopU [0, 1, 6, 7] (fun q st H' => ∃ (i : Nat) (r : List Nat) (acc : List (List Nat)), i ≤ l.length ∧ r.length ≤ t.length ∧ acc.length ≤ i ∧ cutL t l = (cutL r (l.drop i)).map (fun p => (acc ++ p.1, p.2)) ∧ q = l.length - i ∧ H' = H ∧
        st = MS 43 [(0, .str (ci r)), (1, .lst s es o), (6, .lst 1 (acc.map sV) true), (7, .int .i64 i)]) (n := l.length)
      ⟨_, _, keep_up (l' := [(0, .str (ci t)), (1, .lst s es o), (6, .lst 1 [] true), (7, .int .i64 0)]) (by simp), List.Sublist.refl _, 0, t, [], Nat.zero_le _, Nat.le_refl _, Nat.le_refl _, by simp, rfl, rfl, by simp⟩ ?_
    rintro q st H' ⟨i, r, acc, hi, hrl, hal, hcut, rfl, hH, rfl⟩
    subst hH
    have hrc := ci_len r
    by_cases hlt : i < l.length
    · have hg := hge i hlt
      have hs1 : s = 1 := hs.resolve_right (fun h => by subst h; simp at hlt)
      subst hs1
      have hlt' : (i : Int) < l.length := by omega
      have hn := hnat _ (List.getElem_mem hlt)
      rw [List.drop_eq_getElem_cons hlt] at hcut
      generalize l[i] = e at *
      simp only [iV] at hg
      obtain ⟨n, rfl⟩ : ∃ n : Nat, e = n := ⟨e.toNat, by omega⟩
      simp only [cutL, Int.toNat_natCast] at hcut
      refine pwp_seq (pwp_seq ?_)
      first | refine pwp_sr ?_ | refine pwp_regionM ?_
      intro K hK
      simp (disch := first | (refine Ok.mk ?_; (try simp only [Lm, La, Lc, Ln, Lt, Ld, Lr, Li, true_or, or_true, true_and, and_true]); omega) | (simp <;> fail) | skip) [runM_nil, hml, hlt']
      refine hK _ _ ?_
      clear hK K
      refine pwp_cT (by simp) (pwp_skip ?_)
      refine pwp_seq (pwp_block ?_)
      by_cases hc : r.length < n
      · have hc' : (r.length : Int) < n := by omega
        rw [if_pos hc] at hcut
        refine pwp_seq ?_
        first | refine pwp_rif ?_ | refine pwp_rifE ?_
        intro K hK
        simp (disch := first | (refine Ok.mk ?_; (try simp only [Lm, La, Lc, Ln, Lt, Ld, Lr, Li, true_or, or_true, true_and, and_true]); omega) | (simp <;> fail) | skip) [runM_nil, hrc, hc', hg, hml]
        refine hK _ _ ?_
        clear hK K
        refine ifT (by simp [runM_nil, hrc, hc']) ?_
        first | refine pwp_sr ?_ | refine pwp_regionM ?_
        intro K hK
        simp (disch := first | (refine Ok.mk ?_; (try simp only [Lm, La, Lc, Ln, Lt, Ld, Lr, Li, true_or, or_true, true_and, and_true]); omega) | (simp <;> fail) | skip) [runM_nil]
        refine hK _ _ ?_
        clear hK K
        refine pwp_retT ⟨.inr rfl, _, _, _, (by simp [runM_nil, resL]; rfl), .refl _, by simp [resV, hcut], rfl, rfl⟩
      · have hc' : ¬ (r.length : Int) < n := by omega
        rw [if_neg hc, Option.map_map] at hcut
        refine pwp_seq ?_
        first | refine pwp_rif ?_ | refine pwp_rifE ?_
        intro K hK
        simp (disch := first | (refine Ok.mk ?_; (try simp only [Lm, La, Lc, Ln, Lt, Ld, Lr, Li, true_or, or_true, true_and, and_true]); omega) | (simp <;> fail) | skip) [runM_nil, hrc, hc', hg, hml]
        refine hK _ _ ?_
        clear hK K
        refine ifF (by simp [runM_nil, hrc, hc']) (pwp_skip ?_)
        first | refine pwp_sr ?_ | refine pwp_regionM ?_
        intro K hK
        simp (disch := first | (refine Ok.mk ?_; (try simp only [Lm, La, Lc, Ln, Lt, Ld, Lr, Li, true_or, or_true, true_and, and_true]); omega) | (simp <;> fail) | skip) [runM_nil, hrc, hg, hml, ci_take]
        refine hK _ _ ?_
        clear hK K
        first | refine pwp_sr ?_ | refine pwp_regionM ?_
        intro K hK
        simp (disch := first | (refine Ok.mk ?_; (try simp only [Lm, La, Lc, Ln, Lt, Ld, Lr, Li, true_or, or_true, true_and, and_true]); omega) | (simp <;> fail) | skip) [runM_nil, hrc, hg, hml, ci_drop]
        refine hK _ _ ?_
        clear hK K
        first | refine pwp_sr ?_ | refine pwp_regionM ?_
        intro K hK
        simp (disch := first | (refine Ok.mk ?_; (try simp only [Lm, La, Lc, Ln, Lt, Ld, Lr, Li, true_or, or_true, true_and, and_true]); omega) | (simp <;> fail) | skip) [runM_nil]
        refine hK _ _ ?_
        clear hK K
        refine ⟨l.length - (i + 1), by omega, _, _, keep_up (l' := [(0, .str (ci (r.drop n))), (1, .lst 1 es o), (6, .lst 1 ((acc ++ [r.take n]).map sV) true), (7, .int .i64 ((i : Int) + 1))]) (by simp [sV]), List.Sublist.refl _, i + 1, r.drop n, acc ++ [r.take n], by omega, by simp; omega, by simp; omega, ?_, rfl, rfl, by simp⟩
        rw [hcut]
        congr 1
        funext p
        simp
    · obtain rfl : i = l.length := by omega
      rw [List.drop_length] at hcut
      simp only [cutL, Option.map_some, List.append_nil] at hcut
      refine pwp_seq (pwp_seq ?_)
      first | refine pwp_sr ?_ | refine pwp_regionM ?_
      intro K hK
      simp (disch := first | (refine Ok.mk ?_; (try simp only [Lm, La, Lc, Ln, Lt, Ld, Lr, Li, true_or, or_true, true_and, and_true]); omega) | (simp <;> fail) | skip) [runM_nil, hml]
      refine hK _ _ ?_
      clear hK K
      refine pwp_cF (by simp) (pwp_exit ?_)
      rw [hcut]
      by_cases hr : r = []
      · subst hr
        have e0 : ci [] = [] := rfl
        refine pwp_seq ?_
        first | refine pwp_rif ?_ | refine pwp_rifE ?_
        intro K hK
        simp (disch := first | (refine Ok.mk ?_; (try simp only [Lm, La, Lc, Ln, Lt, Ld, Lr, Li, true_or, or_true, true_and, and_true]); omega) | (simp <;> fail) | skip) [runM_nil, e0]
        refine hK _ _ ?_
        clear hK K
        refine ifF (by simp [runM_nil, strP, e0]) (pwp_skip ?_)
        first | refine pwp_sr ?_ | refine pwp_regionM ?_
        intro K hK
        simp (disch := first | (refine Ok.mk ?_; (try simp only [Lm, La, Lc, Ln, Lt, Ld, Lr, Li, true_or, or_true, true_and, and_true]); omega) | (simp <;> fail) | skip) [runM_nil]
        refine hK _ _ ?_
        clear hK K
        refine pwp_ret ⟨.inr rfl, _, _, _, (by simp [runM_nil, resL]; rfl), .refl _, by simp [resV], rfl, rfl⟩
      · have e0 : ¬ ci r = [] := by simpa [ci] using hr
        refine pwp_seq ?_
        first | refine pwp_rif ?_ | refine pwp_rifE ?_
        intro K hK
        simp (disch := first | (refine Ok.mk ?_; (try simp only [Lm, La, Lc, Ln, Lt, Ld, Lr, Li, true_or, or_true, true_and, and_true]); omega) | (simp <;> fail) | skip) [runM_nil, strP, e0]
        refine hK _ _ ?_
        clear hK K
        refine ifT (by simp [runM_nil, strP, e0]) ?_
        first | refine pwp_sr ?_ | refine pwp_regionM ?_
        intro K hK
        simp (disch := first | (refine Ok.mk ?_; (try simp only [Lm, La, Lc, Ln, Lt, Ld, Lr, Li, true_or, or_true, true_and, and_true]); omega) | (simp <;> fail) | skip) [runM_nil]
        refine hK _ _ ?_
        clear hK K
        refine pwp_retT ⟨.inr rfl, _, _, _, (by simp [runM_nil, resL]; rfl), .refl _, by simp [resV, hr], rfl, rfl⟩
theorem fits_ok (t : List Nat) (n : Int) (ht : t.length ≤ 1000000000000000) : PSpec Try.prog 35 [.str (ci t), .int .i64 n] (.bool (decide ((t.length : Int) = n))) := by
  intro H
  refine spec_of t35 (by simp [p35]) ?_
  simp only [p35]
  first | refine pwp_sr ?_ | refine pwp_regionM ?_
  intro K hK
  simp (disch := first | (refine Ok.mk ?_; (try simp only [Lm, La, Lc, Ln, Lt, Ld, Lr, Li, true_or, or_true, true_and, and_true]); omega) | (simp <;> fail) | skip) [runM_nil]
  refine hK _ _ ?_
  clear hK K
  first | refine pwp_sr ?_ | refine pwp_regionM ?_
  intro K hK
  simp (disch := first | (refine Ok.mk ?_; (try simp only [Lm, La, Lc, Ln, Lt, Ld, Lr, Li, true_or, or_true, true_and, and_true]); omega) | (simp <;> fail) | skip) [runM_nil]
  refine hK _ _ ?_
  clear hK K
  refine pwp_ret ⟨.inr rfl, _, _, (by simp [runM_nil, resL]; rfl), .refl _, by simp [resV], rfl⟩
def fitB (r : List (List Nat)) (ws : List Int) : Bool := decide (r.map (fun t => (t.length : Int)) = ws)
theorem fit_len {r : List (List Nat)} {ws : List Int} (h : r.length ≠ ws.length) : fitB r ws = false := decide_eq_false fun e => h (by rw [← e, List.length_map])
theorem fit_at {r : List (List Nat)} {ws : List Int} {i : Nat} (h1 : i < r.length) (h2 : i < ws.length) (h : ¬ ((r[i].length : Nat) : Int) = ws[i]) : fitB r ws = false := decide_eq_false fun e => h (by
  subst e
  simp)
theorem fit_all {r : List (List Nat)} {ws : List Int} (hl : r.length = ws.length) (h : ∀ i (h1 : i < r.length) (h2 : i < ws.length), ((r[i].length : Nat) : Int) = ws[i]) : fitB r ws = true := decide_eq_true (List.ext_getElem (by simpa using hl) fun i h1 h2 => by
  rw [List.getElem_map]
  exact h i (by simpa using h1) h2)
theorem eqf_ok {r : List (List Nat)} {l : List Int} (hr : r.length ≤ 1000000) (ht : ∀ t ∈ r, t.length ≤ 1000000000000000) (hl : l.length ≤ 1000000) {s q : Nat} (hs : s = 1 ∨ l = []) (hq : q = 1 ∨ r = []) {o p : Bool} :
    PSpec Try.prog 36 [.lst q (r.map sV) p, .lst s (l.map iV) o, .fn (.func 35) [] []] (.bool (fitB r l)) := by
  intro H
  have hge : ∀ i (h : i < l.length), (l.map iV)[i]? = some (iV l[i]) := fun i h => by rw [List.getElem?_map, List.getElem?_eq_getElem h]; rfl
  have hml : (l.map iV).length = l.length := List.length_map _
  have hgr : ∀ i (h : i < r.length), (r.map sV)[i]? = some (sV r[i]) := fun i h => by rw [List.getElem?_map, List.getElem?_eq_getElem h]; rfl
  have hmr : (r.map sV).length = r.length := List.length_map _
  refine spec_of t36 (by simp [p36]) ?_
  simp only [p36]
  generalize l.map iV = es at *
  generalize r.map sV = rs at *
  first | refine pwp_sr ?_ | refine pwp_regionM ?_
  intro K hK
  simp (disch := first | (refine Ok.mk ?_; (try simp only [Lm, La, Lc, Ln, Lt, Ld, Lr, Li, true_or, or_true, true_and, and_true]); omega) | (simp <;> fail) | skip) [runM_nil]
  refine hK _ _ ?_
  clear hK K
  by_cases h1 : r.length = l.length
  · have h1' : (r.length : Int) = l.length := by omega
    refine pwp_seq ?_
    first | refine pwp_rif ?_ | refine pwp_rifE ?_
    intro K hK
    simp (disch := first | (refine Ok.mk ?_; (try simp only [Lm, La, Lc, Ln, Lt, Ld, Lr, Li, true_or, or_true, true_and, and_true]); omega) | (simp <;> fail) | skip) [runM_nil, hml, hmr, h1']
    refine hK _ _ ?_
    clear hK K
    refine ifF (by simp [runM_nil, hml, hmr, h1']) (pwp_skip ?_)
    refine pwp_seq (pwp_seq ?_)
    first | refine pwp_sr ?_ | refine pwp_regionM ?_
    intro K hK
    simp (disch := first | (refine Ok.mk ?_; (try simp only [Lm, La, Lc, Ln, Lt, Ld, Lr, Li, true_or, or_true, true_and, and_true]); omega) | (simp <;> fail) | skip) [runM_nil, hmr]
    refine hK _ _ ?_
    clear hK K
    refine pwp_block ?_
    refine pwp_loopK [0, 1, 2, 15, 16, 17] (fun q' st H' => ∃ i : Nat, i ≤ r.length ∧ (∀ j (h1 : j < r.length) (h2 : j < l.length), j < i → ((r[j].length : Nat) : Int) = l[j]) ∧ q' = r.length - i ∧ H' = H ∧
        st = MS 32 [(0, .lst q rs p), (1, .lst s es o), (2, .fn (.func 35) [] []), (15, .lst q rs false), (16, .int .i64 r.length), (17, .int .i64 i)]) (n := r.length)
      ⟨_, .refl _, 0, Nat.zero_le _, fun j _ _ h => by omega, rfl, rfl, by simp [keepL_MS, keepA, getS, hmr]⟩ ?_
    rintro q' st H' ⟨i, hi, hix, rfl, hH, rfl⟩
    subst hH
    by_cases hlt : i < r.length
    · have hlt2 : i < l.length := by omega
      have hg := hge i hlt2
      have hg2 := hgr i hlt
      have hs1 : s = 1 := hs.resolve_right (fun h => by subst h; simp at hlt2)
      have hq1 : q = 1 := hq.resolve_right (fun h => by subst h; simp at hlt)
      subst hs1
      subst hq1
      have hlt' : (i : Int) < r.length := by omega
      have hlt2' : (i : Int) < l.length := by omega
      have htt := ht _ (List.getElem_mem hlt)
      have hno := fun h => fit_at hlt hlt2 h
      have hyes : ((r[i].length : Nat) : Int) = l[i] → ∀ j (h1 : j < r.length) (h2 : j < l.length), j < i + 1 → ((r[j].length : Nat) : Int) = l[j] := fun h j h1 h2 hj => by
        rcases Nat.lt_succ_iff_lt_or_eq.1 hj with hj | rfl
        · exact hix j h1 h2 hj
        · exact h
      generalize l[i] = e at *
      generalize r[i] = t at *
      simp only [iV, sV] at hg hg2
      have c := fits_ok t e htt
      refine pwp_seq ?_
      first | refine pwp_sr ?_ | refine pwp_regionM ?_
      intro K hK
      simp (disch := first | (refine Ok.mk ?_; (try simp only [Lm, La, Lc, Ln, Lt, Ld, Lr, Li, true_or, or_true, true_and, and_true]); omega) | (simp <;> fail) | skip) [runM_nil, hlt']
      refine hK _ _ ?_
      clear hK K
      refine pwp_seq (pwp_cT (by simp) (pwp_skip ?_))
      refine pwp_seq (pwp_block ?_)
      first | refine pwp_sr ?_ | refine pwp_regionM ?_
      intro K hK
      simp (disch := first | (refine Ok.mk ?_; (try simp only [Lm, La, Lc, Ln, Lt, Ld, Lr, Li, true_or, or_true, true_and, and_true]); omega) | (simp <;> fail) | skip) [runM_nil, hg2, hmr]
      refine hK _ _ ?_
      clear hK K
      first | refine pwp_sr ?_ | refine pwp_regionM ?_
      intro K hK
      simp (disch := first | (refine Ok.mk ?_; (try simp only [Lm, La, Lc, Ln, Lt, Ld, Lr, Li, true_or, or_true, true_and, and_true]); omega) | (simp <;> fail) | skip) [runM_nil, hg, hml]
      refine hK _ _ ?_
      clear hK K
      by_cases he : (t.length : Int) = e
      · rw [decide_eq_true he] at c
        first | refine pwp_rif ?_ | refine pwp_rifE ?_
        intro K hK
        simp (disch := first | (refine Ok.mk ?_; (try simp only [Lm, La, Lc, Ln, Lt, Ld, Lr, Li, true_or, or_true, true_and, and_true]); omega) | (simp <;> fail) | skip) [runM_nil]
        refine useP (c) ?_
        simp (disch := first | (refine Ok.mk ?_; (try simp only [Lm, La, Lc, Ln, Lt, Ld, Lr, Li, true_or, or_true, true_and, and_true]); omega) | (simp <;> fail) | skip) [runM_nil]
        refine hK _ _ ?_
        clear hK K
        refine ifF (by simp [runM_nil]) (pwp_skip ?_)
        first | refine pwp_sr ?_ | refine pwp_regionM ?_
        intro K hK
        simp (disch := first | (refine Ok.mk ?_; (try simp only [Lm, La, Lc, Ln, Lt, Ld, Lr, Li, true_or, or_true, true_and, and_true]); omega) | (simp <;> fail) | skip) [runM_nil]
        refine hK _ _ ?_
        clear hK K
        exact ⟨r.length - (i + 1), by omega, _, .refl _, i + 1, by omega, hyes he, rfl, rfl, by simp [keepL_MS, keepA, getS]⟩
      · rw [decide_eq_false he] at c
        first | refine pwp_rif ?_ | refine pwp_rifE ?_
        intro K hK
        simp (disch := first | (refine Ok.mk ?_; (try simp only [Lm, La, Lc, Ln, Lt, Ld, Lr, Li, true_or, or_true, true_and, and_true]); omega) | (simp <;> fail) | skip) [runM_nil]
        refine useP (c) ?_
        simp (disch := first | (refine Ok.mk ?_; (try simp only [Lm, La, Lc, Ln, Lt, Ld, Lr, Li, true_or, or_true, true_and, and_true]); omega) | (simp <;> fail) | skip) [runM_nil]
        refine hK _ _ ?_
        clear hK K
        refine ifT (by simp [runM_nil]) ?_
        first | refine pwp_sr ?_ | refine pwp_regionM ?_
        intro K hK
        simp (disch := first | (refine Ok.mk ?_; (try simp only [Lm, La, Lc, Ln, Lt, Ld, Lr, Li, true_or, or_true, true_and, and_true]); omega) | (simp <;> fail) | skip) [runM_nil]
        refine hK _ _ ?_
        clear hK K
        refine pwp_retB ⟨.inr rfl, _, _, (by simp [runM_nil, resL]; rfl), .refl _, by simp [resV, hno he], rfl⟩
    · obtain rfl : i = r.length := by omega
      have := fit_all h1 fun j h1 h2 => hix j h1 h2 h1
      refine pwp_seq ?_
      first | refine pwp_sr ?_ | refine pwp_regionM ?_
      intro K hK
      simp (disch := first | (refine Ok.mk ?_; (try simp only [Lm, La, Lc, Ln, Lt, Ld, Lr, Li, true_or, or_true, true_and, and_true]); omega) | (simp <;> fail) | skip) [runM_nil]
      refine hK _ _ ?_
      clear hK K
      refine pwp_seq (pwp_cF (by simp) (pwp_exit ?_))
      first | refine pwp_sr ?_ | refine pwp_regionM ?_
      intro K hK
      simp (disch := first | (refine Ok.mk ?_; (try simp only [Lm, La, Lc, Ln, Lt, Ld, Lr, Li, true_or, or_true, true_and, and_true]); omega) | (simp <;> fail) | skip) [runM_nil]
      refine hK _ _ ?_
      clear hK K
      refine pwp_ret ⟨.inr rfl, _, _, (by simp [runM_nil, resL]; rfl), .refl _, by simp [resV, this], rfl⟩
  · have h1' : ¬ (r.length : Int) = l.length := by omega
    refine pwp_seq ?_
    first | refine pwp_rif ?_ | refine pwp_rifE ?_
    intro K hK
    simp (disch := first | (refine Ok.mk ?_; (try simp only [Lm, La, Lc, Ln, Lt, Ld, Lr, Li, true_or, or_true, true_and, and_true]); omega) | (simp <;> fail) | skip) [runM_nil, hml, hmr, h1']
    refine hK _ _ ?_
    clear hK K
    refine ifT (by simp [runM_nil, hml, hmr, h1']) ?_
    first | refine pwp_sr ?_ | refine pwp_regionM ?_
    intro K hK
    simp (disch := first | (refine Ok.mk ?_; (try simp only [Lm, La, Lc, Ln, Lt, Ld, Lr, Li, true_or, or_true, true_and, and_true]); omega) | (simp <;> fail) | skip) [runM_nil]
    refine hK _ _ ?_
    clear hK K
    refine pwp_retT ⟨.inr rfl, _, _, (by simp [runM_nil, resL]; rfl), .refl _, by simp [resV, fit_len h1], rfl⟩
theorem whole_ok {r : List (List Nat)} {l : List Int} (hr : r.length ≤ 1000000) (ht : ∀ t ∈ r, t.length ≤ 1000000000000000) (hf : r.flatten.length ≤ 1000000) (hl : l.length ≤ 1000000) {s q : Nat} (hs : s = 1 ∨ l = []) (hq : q = 1 ∨ r = []) {o p : Bool} :
    PSpec Try.prog 25 [.lst q (r.map sV) p, .lst s (l.map iV) o] (.tup [.str (ci (wholeB r l).1), .int .i64 ((wholeB r l).2 : Nat)]) := by
  intro H
  have c := may_ok (o := false) hl hs
  have c2 := eqf_ok (o := false) (p := false) hr ht hl hs hq
  have c3 := join_ok (o := false) hq hr hf
  refine spec_of t25 (by simp [p25]) ?_
  simp only [p25]
  unfold wholeB
  generalize l.map iV = es at *
  generalize r.map sV = rs at *
  first | refine pwp_sr ?_ | refine pwp_regionM ?_
  intro K hK
  simp (disch := first | (refine Ok.mk ?_; (try simp only [Lm, La, Lc, Ln, Lt, Ld, Lr, Li, true_or, or_true, true_and, and_true]); omega) | (simp <;> fail) | skip) [runM_nil]
  refine hK _ _ ?_
  clear hK K
  cases hm : mayW l
  · rw [hm] at c
    refine pwp_seq ?_
    first | refine pwp_rif ?_ | refine pwp_rifE ?_
    intro K hK
    simp (disch := first | (refine Ok.mk ?_; (try simp only [Lm, La, Lc, Ln, Lt, Ld, Lr, Li, true_or, or_true, true_and, and_true]); omega) | (simp <;> fail) | skip) [runM_nil]
    refine useP (c) ?_
    simp (disch := first | (refine Ok.mk ?_; (try simp only [Lm, La, Lc, Ln, Lt, Ld, Lr, Li, true_or, or_true, true_and, and_true]); omega) | (simp <;> fail) | skip) [runM_nil]
    refine hK _ _ ?_
    clear hK K
    refine ifT (by simp [runM_nil]) ?_
    first | refine pwp_sr ?_ | refine pwp_regionM ?_
    intro K hK
    simp (disch := first | (refine Ok.mk ?_; (try simp only [Lm, La, Lc, Ln, Lt, Ld, Lr, Li, true_or, or_true, true_and, and_true]); omega) | (simp <;> fail) | skip) [runM_nil]
    refine hK _ _ ?_
    clear hK K
    refine pwp_retT ⟨.inr rfl, _, _, (by simp [runM_nil, resL]; rfl), .refl _, by simp [resV, ci], rfl⟩
  · rw [hm] at c
    refine pwp_seq ?_
    first | refine pwp_rif ?_ | refine pwp_rifE ?_
    intro K hK
    simp (disch := first | (refine Ok.mk ?_; (try simp only [Lm, La, Lc, Ln, Lt, Ld, Lr, Li, true_or, or_true, true_and, and_true]); omega) | (simp <;> fail) | skip) [runM_nil]
    refine useP (c) ?_
    simp (disch := first | (refine Ok.mk ?_; (try simp only [Lm, La, Lc, Ln, Lt, Ld, Lr, Li, true_or, or_true, true_and, and_true]); omega) | (simp <;> fail) | skip) [runM_nil]
    refine hK _ _ ?_
    clear hK K
    refine ifF (by simp [runM_nil]) (pwp_skip ?_)
    rw [if_neg (by simp)]
    first | refine pwp_sr ?_ | refine pwp_regionM ?_
    intro K hK
    simp (disch := first | (refine Ok.mk ?_; (try simp only [Lm, La, Lc, Ln, Lt, Ld, Lr, Li, true_or, or_true, true_and, and_true]); omega) | (simp <;> fail) | skip) [runM_nil]
    refine hK _ _ ?_
    clear hK K
    by_cases he : r.map (fun t => (t.length : Int)) = l
    · have e : fitB r l = true := decide_eq_true he
      rw [if_pos he]
      rw [e] at c2
      refine pwp_seq ?_
      first | refine pwp_rif ?_ | refine pwp_rifE ?_
      intro K hK
      simp (disch := first | (refine Ok.mk ?_; (try simp only [Lm, La, Lc, Ln, Lt, Ld, Lr, Li, true_or, or_true, true_and, and_true]); omega) | (simp <;> fail) | skip) [runM_nil]
      refine useP (c2) ?_
      simp (disch := first | (refine Ok.mk ?_; (try simp only [Lm, La, Lc, Ln, Lt, Ld, Lr, Li, true_or, or_true, true_and, and_true]); omega) | (simp <;> fail) | skip) [runM_nil]
      refine hK _ _ ?_
      clear hK K
      refine ifF (by simp [runM_nil]) (pwp_skip ?_)
      first | refine pwp_sr ?_ | refine pwp_regionM ?_
      intro K hK
      simp (disch := first | (refine Ok.mk ?_; (try simp only [Lm, La, Lc, Ln, Lt, Ld, Lr, Li, true_or, or_true, true_and, and_true]); omega) | (simp <;> fail) | skip) [runM_nil]
      refine useP (c3) ?_
      simp (disch := first | (refine Ok.mk ?_; (try simp only [Lm, La, Lc, Ln, Lt, Ld, Lr, Li, true_or, or_true, true_and, and_true]); omega) | (simp <;> fail) | skip) [runM_nil]
      refine hK _ _ ?_
      clear hK K
      refine pwp_ret ⟨.inr rfl, _, _, (by simp [runM_nil, resL]; rfl), .refl _, by simp [resV], rfl⟩
    · have e : fitB r l = false := decide_eq_false he
      rw [if_neg he]
      rw [e] at c2
      refine pwp_seq ?_
      first | refine pwp_rif ?_ | refine pwp_rifE ?_
      intro K hK
      simp (disch := first | (refine Ok.mk ?_; (try simp only [Lm, La, Lc, Ln, Lt, Ld, Lr, Li, true_or, or_true, true_and, and_true]); omega) | (simp <;> fail) | skip) [runM_nil]
      refine useP (c2) ?_
      simp (disch := first | (refine Ok.mk ?_; (try simp only [Lm, La, Lc, Ln, Lt, Ld, Lr, Li, true_or, or_true, true_and, and_true]); omega) | (simp <;> fail) | skip) [runM_nil]
      refine hK _ _ ?_
      clear hK K
      refine ifT (by simp [runM_nil]) ?_
      first | refine pwp_sr ?_ | refine pwp_regionM ?_
      intro K hK
      simp (disch := first | (refine Ok.mk ?_; (try simp only [Lm, La, Lc, Ln, Lt, Ld, Lr, Li, true_or, or_true, true_and, and_true]); omega) | (simp <;> fail) | skip) [runM_nil]
      refine hK _ _ ?_
      clear hK K
      refine pwp_retT ⟨.inr rfl, _, _, (by simp [runM_nil, resL]; rfl), .refl _, by simp [resV, ci], rfl⟩
theorem rwhole_ok {r : List (List Nat)} {l : List Int} (hr : r.length ≤ 1000000) (hf : r.flatten.length ≤ 1000000) (hl : l.length ≤ 1000000) {s q : Nat} (hs : s = 1 ∨ l = []) (hq : q = 1 ∨ r = []) {o p : Bool} :
    PSpec Try.prog 26 [.lst q (r.map sV) p, .lst s (l.map iV) o] (.tup [.str (ci (wholeB r l).1), .int .i64 ((wholeB r l).2 : Nat)]) := by
  intro H
  have hmix := mixS
  have c := wids_ok (o := false) hl hs
  have hge : ∀ i (h : i < l.length), (l.map iV)[i]? = some (iV l[i]) := fun i h => by rw [List.getElem?_map, List.getElem?_eq_getElem h]; rfl
  have hml : (l.map iV).length = l.length := List.length_map _
  have hgr : ∀ i (h : i < r.length), (r.map sV)[i]? = some (sV r[i]) := fun i h => by rw [List.getElem?_map, List.getElem?_eq_getElem h]; rfl
  have hmr : (r.map sV).length = r.length := List.length_map _
  refine spec_of t26 (by simp [p26]) ?_
  simp only [p26]
  unfold wholeB
  generalize l.map iV = es at *
  generalize r.map sV = rs at *
  first | refine pwp_sr ?_ | refine pwp_regionM ?_
  intro K hK
  simp (disch := first | (refine Ok.mk ?_; (try simp only [Lm, La, Lc, Ln, Lt, Ld, Lr, Li, true_or, or_true, true_and, and_true]); omega) | (simp <;> fail) | skip) [runM_nil]
  refine hK _ _ ?_
  clear hK K
  cases hm : mayW l
  · rw [hm] at c
    refine pwp_seq ?_
    first | refine pwp_rif ?_ | refine pwp_rifE ?_
    intro K hK
    simp (disch := first | (refine Ok.mk ?_; (try simp only [Lm, La, Lc, Ln, Lt, Ld, Lr, Li, true_or, or_true, true_and, and_true]); omega) | (simp <;> fail) | skip) [runM_nil]
    refine useP (c) ?_
    simp (disch := first | (refine Ok.mk ?_; (try simp only [Lm, La, Lc, Ln, Lt, Ld, Lr, Li, true_or, or_true, true_and, and_true]); omega) | (simp <;> fail) | skip) [runM_nil]
    refine hK _ _ ?_
    clear hK K
    refine ifT (by simp [runM_nil]) ?_
    first | refine pwp_sr ?_ | refine pwp_regionM ?_
    intro K hK
    simp (disch := first | (refine Ok.mk ?_; (try simp only [Lm, La, Lc, Ln, Lt, Ld, Lr, Li, true_or, or_true, true_and, and_true]); omega) | (simp <;> fail) | skip) [runM_nil]
    refine hK _ _ ?_
    clear hK K
    refine pwp_retT ⟨.inr rfl, _, _, (by simp [runM_nil, resL]; rfl), .refl _, by simp [resV, ci], rfl⟩
  rw [hm] at c
  refine pwp_seq ?_
  first | refine pwp_rif ?_ | refine pwp_rifE ?_
  intro K hK
  simp (disch := first | (refine Ok.mk ?_; (try simp only [Lm, La, Lc, Ln, Lt, Ld, Lr, Li, true_or, or_true, true_and, and_true]); omega) | (simp <;> fail) | skip) [runM_nil]
  refine useP (c) ?_
  simp (disch := first | (refine Ok.mk ?_; (try simp only [Lm, La, Lc, Ln, Lt, Ld, Lr, Li, true_or, or_true, true_and, and_true]); omega) | (simp <;> fail) | skip) [runM_nil]
  refine hK _ _ ?_
  clear hK K
  refine ifF (by simp [runM_nil]) (pwp_skip ?_)
  rw [if_neg (by simp)]
  by_cases h1 : r.length = l.length
  · have h1' : (r.length : Int) = l.length := by omega
    refine pwp_seq ?_
    first | refine pwp_rif ?_ | refine pwp_rifE ?_
    intro K hK
    simp (disch := first | (refine Ok.mk ?_; (try simp only [Lm, La, Lc, Ln, Lt, Ld, Lr, Li, true_or, or_true, true_and, and_true]); omega) | (simp <;> fail) | skip) [runM_nil, hml, hmr, h1']
    refine hK _ _ ?_
    clear hK K
    refine ifF (by simp [runM_nil, hml, hmr, h1']) (pwp_skip ?_)
    first | refine pwp_sr ?_ | refine pwp_regionM ?_
    intro K hK
    simp (disch := first | (refine Ok.mk ?_; (try simp only [Lm, La, Lc, Ln, Lt, Ld, Lr, Li, true_or, or_true, true_and, and_true]); omega) | (simp <;> fail) | skip) [runM_nil]
    refine hK _ _ ?_
    clear hK K
    refine pwp_seq (pwp_seq ?_)
    first | refine pwp_sr ?_ | refine pwp_regionM ?_
    intro K hK
    simp (disch := first | (refine Ok.mk ?_; (try simp only [Lm, La, Lc, Ln, Lt, Ld, Lr, Li, true_or, or_true, true_and, and_true]); omega) | (simp <;> fail) | skip) [runM_nil]
    refine hK _ _ ?_
    clear hK K
    refine pwp_block ?_
    refine pwp_loopK [0, 1, 6, 7] (fun q' st H' => ∃ i : Nat, i ≤ l.length ∧ (∀ j (h1 : j < r.length) (h2 : j < l.length), j < i → ((r[j].length : Nat) : Int) = l[j]) ∧ q' = l.length - i ∧ H' = H ∧
        st = MS 39 [(0, .lst q rs p), (1, .lst s es o), (6, .str (ci (r.take i).flatten)), (7, .int .i64 i)]) (n := l.length)
      ⟨_, .refl _, 0, Nat.zero_le _, fun j _ _ h => by omega, rfl, rfl, by simp [keepL_MS, keepA, getS, ci]⟩ ?_
    rintro q' st H' ⟨i, hi, hix, rfl, hH, rfl⟩
    subst hH
    by_cases hlt2 : i < l.length
    · have hlt : i < r.length := by omega
      have hg := hge i hlt2
      have hg2 := hgr i hlt
      have hs1 : s = 1 := hs.resolve_right (fun h => by subst h; simp at hlt2)
      have hq1 : q = 1 := hq.resolve_right (fun h => by subst h; simp at hlt)
      subst hs1
      subst hq1
      have hlt' : (i : Int) < r.length := by omega
      have hlt2' : (i : Int) < l.length := by omega
      have hno := fun h => fit_at hlt hlt2 h
      have hyes : ((r[i].length : Nat) : Int) = l[i] → ∀ j (h1 : j < r.length) (h2 : j < l.length), j < i + 1 → ((r[j].length : Nat) : Int) = l[j] := fun h j h1 h2 hj => by
        rcases Nat.lt_succ_iff_lt_or_eq.1 hj with hj | rfl
        · exact hix j h1 h2 hj
        · exact h
      have hts : (r.take (i + 1)).flatten = (r.take i).flatten ++ r[i] := by
        rw [List.take_succ_eq_append_getElem hlt]
        simp only [List.flatten_append, List.flatten_cons, List.flatten_nil, List.append_nil]
      have hfl : ((r.take i).flatten ++ r[i]).length ≤ 1000000 := by
        rw [← hts]
        have : r.flatten = (r.take (i + 1)).flatten ++ (r.drop (i + 1)).flatten := by rw [← List.flatten_append, List.take_append_drop]
        rw [this, List.length_append] at hf
        omega
      rw [List.length_append] at hfl
      generalize l[i] = e at *
      generalize r[i] = t at *
      generalize (r.take i).flatten = T at *
      simp only [iV, sV] at hg hg2
      have hct := ci_len t
      refine pwp_seq (pwp_seq ?_)
      first | refine pwp_sr ?_ | refine pwp_regionM ?_
      intro K hK
      simp (disch := first | (refine Ok.mk ?_; (try simp only [Lm, La, Lc, Ln, Lt, Ld, Lr, Li, true_or, or_true, true_and, and_true]); omega) | (simp <;> fail) | skip) [runM_nil, hml, hlt2']
      refine hK _ _ ?_
      clear hK K
      refine pwp_cT (by simp) (pwp_skip ?_)
      refine pwp_seq (pwp_block ?_)
      by_cases he : (t.length : Int) = e
      · refine pwp_seq (pwp_seq ?_)
        first | refine pwp_sd hmix ?_ | refine pwp_drawM hmix ?_
        intro K hK
        simp (disch := first | (refine Ok.mk ?_; (try simp only [Lm, La, Lc, Ln, Lt, Ld, Lr, Li, true_or, or_true, true_and, and_true]); omega) | (simp <;> fail) | skip) [runM_nil, hg, hg2, hml, hmr, hct, he]
        refine hK _ _ ?_
        clear hK K
        refine pwp_cF (by simp [hct, he]) (pwp_skip ?_)
        first | refine pwp_sr ?_ | refine pwp_regionM ?_
        intro K hK
        simp (disch := first | (refine Ok.mk ?_; (try simp only [Lm, La, Lc, Ln, Lt, Ld, Lr, Li, true_or, or_true, true_and, and_true]); omega) | (simp <;> fail) | skip) [runM_nil, hg2, hmr, strP, ci_append]
        refine hK _ _ ?_
        clear hK K
        first | refine pwp_sr ?_ | refine pwp_regionM ?_
        intro K hK
        simp (disch := first | (refine Ok.mk ?_; (try simp only [Lm, La, Lc, Ln, Lt, Ld, Lr, Li, true_or, or_true, true_and, and_true]); omega) | (simp <;> fail) | skip) [runM_nil]
        refine hK _ _ ?_
        clear hK K
        exact ⟨l.length - (i + 1), by omega, _, .refl _, i + 1, by omega, hyes he, rfl, rfl, by simp [keepL_MS, keepA, getS, hts, ci_append]⟩
      · refine pwp_seq (pwp_seq ?_)
        first | refine pwp_sd hmix ?_ | refine pwp_drawM hmix ?_
        intro K hK
        simp (disch := first | (refine Ok.mk ?_; (try simp only [Lm, La, Lc, Ln, Lt, Ld, Lr, Li, true_or, or_true, true_and, and_true]); omega) | (simp <;> fail) | skip) [runM_nil, hg, hg2, hml, hmr, hct, he]
        refine hK _ _ ?_
        clear hK K
        refine pwp_cT (by simp [hct, he]) ?_
        refine pwp_seq ?_
        first | refine pwp_sr ?_ | refine pwp_regionM ?_
        intro K hK
        simp (disch := first | (refine Ok.mk ?_; (try simp only [Lm, La, Lc, Ln, Lt, Ld, Lr, Li, true_or, or_true, true_and, and_true]); omega) | (simp <;> fail) | skip) [runM_nil]
        refine hK _ _ ?_
        clear hK K
        have := hno he
        refine pwp_ret ⟨.inr rfl, _, _, (by simp [runM_nil, resL]; rfl), .refl _, ?_, rfl⟩
        rw [if_neg (of_decide_eq_false this)]
        simp [resV, ci]
    · obtain rfl : i = l.length := by omega
      have := fit_all h1 fun j h1 h2 => hix j h1 h2 h2
      have hT : r.take l.length = r := List.take_of_length_le (by omega)
      rw [if_pos (of_decide_eq_true this)]
      refine pwp_seq (pwp_seq ?_)
      first | refine pwp_sr ?_ | refine pwp_regionM ?_
      intro K hK
      simp (disch := first | (refine Ok.mk ?_; (try simp only [Lm, La, Lc, Ln, Lt, Ld, Lr, Li, true_or, or_true, true_and, and_true]); omega) | (simp <;> fail) | skip) [runM_nil, hml]
      refine hK _ _ ?_
      clear hK K
      refine pwp_cF (by simp) (pwp_exit ?_)
      first | refine pwp_sr ?_ | refine pwp_regionM ?_
      intro K hK
      simp (disch := first | (refine Ok.mk ?_; (try simp only [Lm, La, Lc, Ln, Lt, Ld, Lr, Li, true_or, or_true, true_and, and_true]); omega) | (simp <;> fail) | skip) [runM_nil]
      refine hK _ _ ?_
      clear hK K
      refine pwp_ret ⟨.inr rfl, _, _, (by simp [runM_nil, resL]; rfl), .refl _, by simp [resV, hT], rfl⟩
  · have h1' : ¬ (r.length : Int) = l.length := by omega
    rw [if_neg (of_decide_eq_false (fit_len h1))]
    refine pwp_seq ?_
    first | refine pwp_rif ?_ | refine pwp_rifE ?_
    intro K hK
    simp (disch := first | (refine Ok.mk ?_; (try simp only [Lm, La, Lc, Ln, Lt, Ld, Lr, Li, true_or, or_true, true_and, and_true]); omega) | (simp <;> fail) | skip) [runM_nil, hml, hmr, h1']
    refine hK _ _ ?_
    clear hK K
    refine ifT (by simp [runM_nil, hml, hmr, h1']) ?_
    first | refine pwp_sr ?_ | refine pwp_regionM ?_
    intro K hK
    simp (disch := first | (refine Ok.mk ?_; (try simp only [Lm, La, Lc, Ln, Lt, Ld, Lr, Li, true_or, or_true, true_and, and_true]); omega) | (simp <;> fail) | skip) [runM_nil]
    refine hK _ _ ?_
    clear hK K
    refine pwp_retT ⟨.inr rfl, _, _, (by simp [runM_nil, resL]; rfl), .refl _, by simp [resV, ci], rfl⟩
end Go.Proofs.Ytjbnomkajfmlpaa.E
/- What a row hands over, as bytes and numbers. -/
namespace Go.Proofs.Ytjbnomkajfmlpaa.E
open Go Go.RowKit Go.Proofs Go.ChangeShapes Go.WideShapes
set_option linter.unusedVariables false
set_option linter.unusedSimpArgs false
theorem bytes_of {xs : List PV} (h : ∀ x ∈ xs, el false (fun ps => ∃ n : Int, ps = [.int .u8 n] ∧ (Lit.int .u8 n).wf = true) x) : ∃ l : List Nat, xs = l.map u8 ∧ ∀ x ∈ l, x < 256 := by
  induction xs with
  | nil => exact ⟨[], rfl, fun c hc => by cases hc⟩
  | cons x xs ih =>
    obtain ⟨l, rfl, hl⟩ := ih fun y hy => h y (List.mem_cons_of_mem _ hy)
    obtain ⟨n, e, hn⟩ := h x (List.mem_cons_self ..)
    cases e
    have hw : 0 ≤ n ∧ n ≤ 255 := by simpa [Lit.wf, IntKind.min, IntKind.max, IntKind.signed, IntKind.bits] using hn
    refine ⟨n.toNat :: l, ?_, fun c hc => ?_⟩
    · have : ((n.toNat : Nat) : Int) = n := by omega
      simp [u8, this]
    · rcases List.mem_cons.1 hc with rfl | hc
      · omega
      · exact hl c hc
theorem openBytes : OpnV Try.prog 25 1 (fun ps => ∃ l : List Nat, ps = [.lst 1 (l.map u8) false] ∧ (∀ x ∈ l, x < 256) ∧ l.length ≤ 140737488351232) :=
  (OpnV.slice (B := 1) false Try.underlying25 (by kernel_rfl) (by kernel_rfl) (OpnV.int Try.underlying5 (by kernel_rfl)) (fun _ => rfl) (by omega)).weaken (by
    rintro _ ⟨xs, rfl, h1, _, h2⟩
    obtain ⟨l, rfl, h3⟩ := bytes_of h2
    rw [List.length_map] at h1
    exact ⟨l, rfl, h3, by omega⟩)
theorem openIntB : OpnV Try.prog 3 1 (fun ps => ∃ n : Int, ps = [.int .i64 n] ∧ -9223372036854775808 ≤ n ∧ n ≤ 9223372036854775807) := (OpnV.int Try.underlying3 (by kernel_rfl)).weaken (by
  rintro _ ⟨n, rfl, h⟩
  have hw : -9223372036854775808 ≤ n ∧ n ≤ 9223372036854775807 := by simpa [Lit.wf, IntKind.min, IntKind.max, IntKind.signed, IntKind.bits] using h
  exact ⟨n, rfl, hw⟩)
theorem bytess_of {xs : List PV} (h : ∀ x ∈ xs, el false (fun ps => ∃ l : List Nat, ps = [.lst 1 (l.map u8) false] ∧ (∀ x ∈ l, x < 256) ∧ l.length ≤ 140737488351232) x) :
    ∃ ls : List (List Nat), xs = ls.map (fun p => .lst 1 (p.map u8) false) ∧ ∀ p ∈ ls, (∀ x ∈ p, x < 256) ∧ p.length ≤ 140737488351232 := by
  induction xs with
  | nil => exact ⟨[], rfl, fun c hc => by cases hc⟩
  | cons x xs ih =>
    obtain ⟨ls, rfl, hl⟩ := ih fun y hy => h y (List.mem_cons_of_mem _ hy)
    obtain ⟨p, e, hp⟩ := h x (List.mem_cons_self ..)
    cases e
    refine ⟨p :: ls, rfl, fun c hc => ?_⟩
    rcases List.mem_cons.1 hc with rfl | hc
    · exact hp
    · exact hl c hc
end Go.Proofs.Ytjbnomkajfmlpaa.E
/- What a row hands over, as a text. -/
namespace Go.Proofs.Ytjbnomkajfmlpaa.E
open Go Go.RowKit Go.Proofs Go.ChangeShapes Go.WideShapes
set_option linter.unusedVariables false
set_option linter.unusedSimpArgs false
theorem openStr : OpnV Try.prog 9 1 (fun ps => ∃ m : List Nat, ps = [.str (ci m)] ∧ (∀ x ∈ m, x < 256) ∧ m.length ≤ 140737488351232) :=
  (OpnV.string Try.underlying9 (by kernel_rfl)).weaken (by
    rintro _ ⟨s, rfl, h⟩
    refine ⟨s.data.toList.map (·.toNat), by simp [bytesOf, ci], fun x hx => ?_, by simpa using h⟩
    obtain ⟨c, _, rfl⟩ := List.mem_map.1 hx
    exact c.toNat_lt)
end Go.Proofs.Ytjbnomkajfmlpaa.E
/- What a row hands over, as a row of texts. -/
namespace Go.Proofs.Ytjbnomkajfmlpaa.E
open Go Go.RowKit Go.Proofs Go.ChangeShapes Go.WideShapes
set_option linter.unusedVariables false
set_option linter.unusedSimpArgs false
theorem strs_elems {xs : List PV} (h : ∀ x ∈ xs, el false (fun ps => ∃ m : List Nat, ps = [.str (ci m)] ∧ (∀ x ∈ m, x < 256) ∧ m.length ≤ 140737488351232) x) : ∃ l : List (List Nat), xs = l.map sV ∧ ∀ t ∈ l, (∀ x ∈ t, x < 256) ∧ t.length ≤ 140737488351232 := by
  induction xs with
  | nil => exact ⟨[], rfl, fun t ht => by cases ht⟩
  | cons x xs ih =>
    obtain ⟨l, rfl, hl⟩ := ih fun y hy => h y (List.mem_cons_of_mem _ hy)
    obtain ⟨m, e, hm⟩ := h x (List.mem_cons_self ..)
    cases e
    refine ⟨m :: l, rfl, fun t ht => ?_⟩
    rcases List.mem_cons.1 ht with rfl | ht
    · exact hm
    · exact hl t ht
theorem openStrs : OpnV Try.prog 49 1 (fun ps => ∃ l : List (List Nat), ps = [.lst 1 (l.map sV) false] ∧ l.length ≤ 140737488351232 ∧ ∀ t ∈ l, (∀ x ∈ t, x < 256) ∧ t.length ≤ 140737488351232) :=
  (OpnV.slice (B := 16) false Try.underlying49 (by kernel_rfl) (by kernel_rfl) openStr (fun _ => rfl) (by omega)).weaken (by
    rintro _ ⟨xs, rfl, h1, _, h2⟩
    obtain ⟨l, rfl, hl⟩ := strs_elems h2
    rw [List.length_map] at h1
    exact ⟨l, rfl, by omega, hl⟩)
end Go.Proofs.Ytjbnomkajfmlpaa.E
/- What a row hands over, as rows of numbers. -/
namespace Go.Proofs.Ytjbnomkajfmlpaa.E
open Go Go.RowKit Go.Proofs Go.ChangeShapes Go.WideShapes
set_option linter.unusedVariables false
set_option linter.unusedSimpArgs false
theorem ints_of {xs : List PV} (h : ∀ x ∈ xs, el false (fun ps => ∃ n : Int, ps = [.int .i64 n] ∧ -9223372036854775808 ≤ n ∧ n ≤ 9223372036854775807) x) : ∃ l : List Int, xs = l.map (fun n => PV.int .i64 n) := by
  induction xs with
  | nil => exact ⟨[], rfl⟩
  | cons x xs ih =>
    obtain ⟨l, rfl⟩ := ih fun y hy => h y (List.mem_cons_of_mem _ hy)
    obtain ⟨n, e, hn⟩ := h x (List.mem_cons_self ..)
    cases e
    exact ⟨n :: l, rfl⟩
theorem openInts : OpnV Try.prog 43 1 (fun ps => ∃ l : List Int, ps = [.lst 1 (l.map fun n => PV.int .i64 n) false] ∧ l.length ≤ 140737488351232) :=
  (OpnV.slice (B := 8) false Try.underlying43 (by kernel_rfl) (by kernel_rfl) openIntB (fun _ => rfl) (by omega)).weaken (by
    rintro _ ⟨xs, rfl, h1, _, h2⟩
    obtain ⟨l, rfl⟩ := ints_of h2
    rw [List.length_map] at h1
    exact ⟨l, rfl, by omega⟩)
end Go.Proofs.Ytjbnomkajfmlpaa.E
/- FixedCells. -/
namespace Go.Proofs.Ytjbnomkajfmlpaa.E
open Go Go.RowKit Go.Proofs
set_option linter.unusedVariables false
set_option linter.unusedSimpArgs false
theorem alive_ok : PSpec Try.prog 11 [] (.bool true) := good 10 10 11 [] _ (by kernel_rfl)
theorem mem_flat_len : ∀ {l : List (List Nat)} {t : List Nat}, t ∈ l → t.length ≤ l.flatten.length
  | x :: l, t, h => by
    rw [List.flatten_cons, List.length_append]
    rcases List.mem_cons.1 h with rfl | h
    · omega
    · have := mem_flat_len h
      omega
theorem cutL_facts : ∀ {ws : List Int} {s : List Nat} {l : List (List Nat)} {r : List Nat}, cutL s ws = some (l, r) → (∀ x ∈ ws, 0 ≤ x) → l.flatten ++ r = s ∧ l.map (fun t => (t.length : Int)) = ws
  | [], s, l, r, h, _ => by
    simp only [cutL, Option.some.injEq, Prod.mk.injEq] at h
    obtain ⟨rfl, rfl⟩ := h
    exact ⟨rfl, rfl⟩
  | n :: ws, s, l, r, h, hn => by
    simp only [cutL] at h
    split at h
    · cases h
    · rename_i hle
      obtain ⟨⟨l', r'⟩, h1, h2⟩ := Option.map_eq_some_iff.1 h
      simp only [Prod.mk.injEq] at h2
      obtain ⟨rfl, rfl⟩ := h2
      obtain ⟨i1, i2⟩ := cutL_facts h1 fun x hx => hn x (List.mem_cons_of_mem _ hx)
      have := hn n (List.mem_cons_self ..)
      refine ⟨by rw [List.flatten_cons, List.append_assoc, i1, List.take_append_drop], ?_⟩
      rw [List.map_cons, i2, List.length_take]
      congr 1
      omega
theorem cells_facts (s : List Nat) (ws : List Int) : (cellsB s ws).1.length ≤ ws.length ∧ (cellsB s ws).1.flatten.length ≤ s.length ∧ (∀ t ∈ (cellsB s ws).1, t.length ≤ s.length) ∧ ((cellsB s ws).2 = 0 → wholeB (cellsB s ws).1 ws = (s, 0)) := by
  unfold cellsB
  cases hm : mayW ws
  · simp
  · rw [if_neg (by simp)]
    cases hc : cutL s ws with
    | none => simp
    | some p =>
      obtain ⟨l, r⟩ := p
      obtain ⟨h1, h2⟩ := cutL_facts hc fun x hx => (may_nat hm x hx).1
      dsimp only
      by_cases hr : r = []
      · subst hr
        rw [List.append_nil] at h1
        rw [if_pos rfl]
        refine ⟨by rw [← h2, List.length_map]; exact Nat.le_refl _, by rw [h1]; exact Nat.le_refl _, fun t ht => ?_, fun _ => ?_⟩
        · rw [← h1]
          exact mem_flat_len ht
        · rw [wholeB, if_neg (by simp [hm]), if_pos h2, h1]
      · rw [if_neg hr]
        simp
theorem few_bound {r : List (List Nat)} {n : Nat} (h : fewN [r] ≤ n) : r.length ≤ n ∧ r.flatten.length ≤ n ∧ ∀ t ∈ r, t.length ≤ n := by
  have e : fewN [r] = r.length + r.flatten.length := by
    simp only [fewN, List.map_cons, List.map_nil, List.sum_cons, List.sum_nil, Nat.add_zero]
    clear h
    induction r with
    | nil => rfl
    | cons t r ih =>
      simp only [recW, List.map_cons, List.sum_cons, List.length_cons, List.flatten_cons, List.length_append] at *
      omega
  refine ⟨by omega, by omega, fun t ht => ?_⟩
  have : t.length ≤ r.flatten.length := mem_flat_len ht
  omega
theorem cells_law {s : List Nat} (hs : s.length ≤ 1000000000000000) {ws : List Int} (hw : ws.length ≤ 140737488351232) {r : List (List Nat)} (hr : r.length ≤ 140737488351232) (ht : ∀ t ∈ r, t.length ≤ 140737488351232) :
    PSpec Try.prog 9 [.str (ci s), .lst 1 (ws.map iV) false, .lst 1 (r.map sV) false] (.bool true) := by
  intro H
  have hmix := mixS
  have hml : (ws.map iV).length = ws.length := List.length_map _
  have ca := alive_ok
  have hsc := ci_len s
  refine spec_of t9 (by simp [p9]) ?_
  simp only [p9]
  first | refine pwp_sr ?_ | refine pwp_regionM ?_
  intro K hK
  simp (disch := first | (refine Ok.mk ?_; (try simp only [Lm, La, Lc, Ln, Lt, Ld, Lr, Li, true_or, or_true, true_and, and_true]); omega) | (simp <;> fail) | skip) [runM_nil]
  refine hK _ _ ?_
  clear hK K
  by_cases h1 : 3000 < s.length
  · have h1' : (3000 : Int) < s.length := by omega
    refine pwp_seq ?_
    first | refine pwp_rif ?_ | refine pwp_rifE ?_
    intro K hK
    simp (disch := first | (refine Ok.mk ?_; (try simp only [Lm, La, Lc, Ln, Lt, Ld, Lr, Li, true_or, or_true, true_and, and_true]); omega) | (simp <;> fail) | skip) [runM_nil, hsc, h1']
    refine hK _ _ ?_
    clear hK K
    refine ifT (by simp [runM_nil, hsc, h1']) ?_
    first | refine pwp_sr ?_ | refine pwp_regionM ?_
    intro K hK
    simp (disch := first | (refine Ok.mk ?_; (try simp only [Lm, La, Lc, Ln, Lt, Ld, Lr, Li, true_or, or_true, true_and, and_true]); omega) | (simp <;> fail) | skip) [runM_nil]
    refine useP (ca) ?_
    simp (disch := first | (refine Ok.mk ?_; (try simp only [Lm, La, Lc, Ln, Lt, Ld, Lr, Li, true_or, or_true, true_and, and_true]); omega) | (simp <;> fail) | skip) [runM_nil]
    refine hK _ _ ?_
    clear hK K
    refine pwp_retT ⟨.inr rfl, _, _, (by simp [runM_nil, resL]; rfl), .refl _, by simp [resV], rfl⟩
  have h1' : ¬ (3000 : Int) < s.length := by omega
  by_cases h2 : 60 < ws.length
  · have h2' : (60 : Int) < ws.length := by omega
    refine pwp_seq ?_
    first | refine pwp_rif ?_ | refine pwp_rifE ?_
    intro K hK
    simp (disch := first | (refine Ok.mk ?_; (try simp only [Lm, La, Lc, Ln, Lt, Ld, Lr, Li, true_or, or_true, true_and, and_true]); omega) | (simp <;> fail) | skip) [runM_nil, hsc, h1', hml, h2']
    refine hK _ _ ?_
    clear hK K
    refine ifT (by simp [runM_nil, hsc, h1', hml, h2']) ?_
    first | refine pwp_sr ?_ | refine pwp_regionM ?_
    intro K hK
    simp (disch := first | (refine Ok.mk ?_; (try simp only [Lm, La, Lc, Ln, Lt, Ld, Lr, Li, true_or, or_true, true_and, and_true]); omega) | (simp <;> fail) | skip) [runM_nil]
    refine useP (ca) ?_
    simp (disch := first | (refine Ok.mk ?_; (try simp only [Lm, La, Lc, Ln, Lt, Ld, Lr, Li, true_or, or_true, true_and, and_true]); omega) | (simp <;> fail) | skip) [runM_nil]
    refine hK _ _ ?_
    clear hK K
    refine pwp_retT ⟨.inr rfl, _, _, (by simp [runM_nil, resL]; rfl), .refl _, by simp [resV], rfl⟩
  have h2' : ¬ (60 : Int) < ws.length := by omega
  have hone : ∀ x ∈ [r], x = r := fun x hx => by simpa using hx
  have cf := few_ok (l := [r]) (many := 1) (long := 3000) (o := false) (by simp) (fun x hx => by rw [hone x hx]; omega) (fun x hx t hxt => by rw [hone x hx] at hxt; have := ht t hxt; omega) (by omega) (by omega)
  simp only [rowsC, List.map_cons, List.map_nil] at cf
  by_cases h3 : fewN [r] ≤ 3000
  · obtain ⟨b1, b2, b3⟩ := few_bound h3
    simp only [h3, decide_true, List.length_cons, List.length_nil, Nat.zero_add, Nat.le_refl, Bool.and_self] at cf
    have c1 := cells_ok (s := 1) (o := false) (l := ws) (by omega) (.inl rfl) s (by omega)
    have c2 := rcells_ok (s := 1) (o := false) (l := ws) (by omega) (.inl rfl) s (by omega)
    have c3 := whole_ok (s := 1) (q := 1) (o := false) (p := false) (r := r) (l := ws) (by omega) (fun t h => by have := b3 t h; omega) (by omega) (by omega) (.inl rfl) (.inl rfl)
    have c4 := rwhole_ok (s := 1) (q := 1) (o := false) (p := false) (r := r) (l := ws) (by omega) (by omega) (by omega) (.inl rfl) (.inl rfl)
    obtain ⟨k1, k2, k3, k4⟩ := cells_facts s ws
    have c5 := whole_ok (s := 1) (q := 1) (o := false) (p := false) (r := (cellsB s ws).1) (l := ws) (by omega) (fun t h => by have := k3 t h; omega) (by omega) (by omega) (.inl rfl) (.inl rfl)
    have c6 := strsSame_ok (r := (cellsB s ws).1) (by omega) (o := false) (q := false)
    generalize cellsB s ws = C at *
    obtain ⟨x, e⟩ := C
    dsimp only at *
    generalize wholeB r ws = W at *
    obtain ⟨t, g⟩ := W
    generalize wholeB x ws = V at *
    obtain ⟨bk, i⟩ := V
    dsimp only at *
    generalize ws.map iV = es at *
    generalize r.map sV = rs at *
    refine pwp_seq ?_
    first | refine pwp_rif ?_ | refine pwp_rifE ?_
    intro K hK
    simp (disch := first | (refine Ok.mk ?_; (try simp only [Lm, La, Lc, Ln, Lt, Ld, Lr, Li, true_or, or_true, true_and, and_true]); omega) | (simp <;> fail) | skip) [runM_nil, hsc, h1', hml, h2']
    refine useP (cf) ?_
    simp (disch := first | (refine Ok.mk ?_; (try simp only [Lm, La, Lc, Ln, Lt, Ld, Lr, Li, true_or, or_true, true_and, and_true]); omega) | (simp <;> fail) | skip) [runM_nil, hsc, h1', hml, h2']
    refine hK _ _ ?_
    clear hK K
    refine ifF (by simp [runM_nil]) (pwp_skip ?_)
    first | refine pwp_sr ?_ | refine pwp_regionM ?_
    intro K hK
    simp (disch := first | (refine Ok.mk ?_; (try simp only [Lm, La, Lc, Ln, Lt, Ld, Lr, Li, true_or, or_true, true_and, and_true]); omega) | (simp <;> fail) | skip) [runM_nil]
    refine useP (c1) ?_
    simp (disch := first | (refine Ok.mk ?_; (try simp only [Lm, La, Lc, Ln, Lt, Ld, Lr, Li, true_or, or_true, true_and, and_true]); omega) | (simp <;> fail) | skip) [runM_nil]
    refine hK _ _ ?_
    clear hK K
    first | refine pwp_sr ?_ | refine pwp_regionM ?_
    intro K hK
    simp (disch := first | (refine Ok.mk ?_; (try simp only [Lm, La, Lc, Ln, Lt, Ld, Lr, Li, true_or, or_true, true_and, and_true]); omega) | (simp <;> fail) | skip) [runM_nil]
    refine useP (c2) ?_
    simp (disch := first | (refine Ok.mk ?_; (try simp only [Lm, La, Lc, Ln, Lt, Ld, Lr, Li, true_or, or_true, true_and, and_true]); omega) | (simp <;> fail) | skip) [runM_nil]
    refine hK _ _ ?_
    clear hK K
    first | refine pwp_sr ?_ | refine pwp_regionM ?_
    intro K hK
    simp (disch := first | (refine Ok.mk ?_; (try simp only [Lm, La, Lc, Ln, Lt, Ld, Lr, Li, true_or, or_true, true_and, and_true]); omega) | (simp <;> fail) | skip) [runM_nil]
    refine useP (c3) ?_
    simp (disch := first | (refine Ok.mk ?_; (try simp only [Lm, La, Lc, Ln, Lt, Ld, Lr, Li, true_or, or_true, true_and, and_true]); omega) | (simp <;> fail) | skip) [runM_nil]
    refine hK _ _ ?_
    clear hK K
    first | refine pwp_sr ?_ | refine pwp_regionM ?_
    intro K hK
    simp (disch := first | (refine Ok.mk ?_; (try simp only [Lm, La, Lc, Ln, Lt, Ld, Lr, Li, true_or, or_true, true_and, and_true]); omega) | (simp <;> fail) | skip) [runM_nil]
    refine useP (c4) ?_
    simp (disch := first | (refine Ok.mk ?_; (try simp only [Lm, La, Lc, Ln, Lt, Ld, Lr, Li, true_or, or_true, true_and, and_true]); omega) | (simp <;> fail) | skip) [runM_nil]
    refine hK _ _ ?_
    clear hK K
    first | refine pwp_sr ?_ | refine pwp_regionM ?_
    intro K hK
    simp (disch := first | (refine Ok.mk ?_; (try simp only [Lm, La, Lc, Ln, Lt, Ld, Lr, Li, true_or, or_true, true_and, and_true]); omega) | (simp <;> fail) | skip) [runM_nil]
    refine useP (c5) ?_
    simp (disch := first | (refine Ok.mk ?_; (try simp only [Lm, La, Lc, Ln, Lt, Ld, Lr, Li, true_or, or_true, true_and, and_true]); omega) | (simp <;> fail) | skip) [runM_nil]
    refine hK _ _ ?_
    clear hK K
    by_cases he : e = 0
    · subst he
      have := k4 rfl
      simp only [Prod.mk.injEq] at this
      obtain ⟨rfl, rfl⟩ := this
      first | refine pwp_sr ?_ | refine pwp_regionM ?_
      intro K hK
      simp (disch := first | (refine Ok.mk ?_; (try simp only [Lm, La, Lc, Ln, Lt, Ld, Lr, Li, true_or, or_true, true_and, and_true]); omega) | (simp <;> fail) | skip) [runM_nil, strP]
      refine useP (ca) ?_
      simp (disch := first | (refine Ok.mk ?_; (try simp only [Lm, La, Lc, Ln, Lt, Ld, Lr, Li, true_or, or_true, true_and, and_true]); omega) | (simp <;> fail) | skip) [runM_nil, strP]
      refine useP (c6) ?_
      simp (disch := first | (refine Ok.mk ?_; (try simp only [Lm, La, Lc, Ln, Lt, Ld, Lr, Li, true_or, or_true, true_and, and_true]); omega) | (simp <;> fail) | skip) [runM_nil, strP]
      refine hK _ _ ?_
      clear hK K
      refine pwp_ret ⟨.inr rfl, _, _, (by simp [runM_nil, resL]; rfl), .refl _, by simp [resV], rfl⟩
    · have he' : ¬ (e : Int) = 0 := by omega
      first | refine pwp_sr ?_ | refine pwp_regionM ?_
      intro K hK
      simp (disch := first | (refine Ok.mk ?_; (try simp only [Lm, La, Lc, Ln, Lt, Ld, Lr, Li, true_or, or_true, true_and, and_true]); omega) | (simp <;> fail) | skip) [runM_nil, strP, he']
      refine useP (ca) ?_
      simp (disch := first | (refine Ok.mk ?_; (try simp only [Lm, La, Lc, Ln, Lt, Ld, Lr, Li, true_or, or_true, true_and, and_true]); omega) | (simp <;> fail) | skip) [runM_nil, strP, he']
      refine useP (c6) ?_
      simp (disch := first | (refine Ok.mk ?_; (try simp only [Lm, La, Lc, Ln, Lt, Ld, Lr, Li, true_or, or_true, true_and, and_true]); omega) | (simp <;> fail) | skip) [runM_nil, strP, he']
      refine hK _ _ ?_
      clear hK K
      refine pwp_ret ⟨.inr rfl, _, _, (by simp [runM_nil, resL]; rfl), .refl _, by simp [resV], rfl⟩
  · simp only [h3, decide_false, Bool.false_and] at cf
    generalize ws.map iV = es at *
    generalize r.map sV = rs at *
    refine pwp_seq ?_
    first | refine pwp_rif ?_ | refine pwp_rifE ?_
    intro K hK
    simp (disch := first | (refine Ok.mk ?_; (try simp only [Lm, La, Lc, Ln, Lt, Ld, Lr, Li, true_or, or_true, true_and, and_true]); omega) | (simp <;> fail) | skip) [runM_nil, hsc, h1', hml, h2']
    refine useP (cf) ?_
    simp (disch := first | (refine Ok.mk ?_; (try simp only [Lm, La, Lc, Ln, Lt, Ld, Lr, Li, true_or, or_true, true_and, and_true]); omega) | (simp <;> fail) | skip) [runM_nil, hsc, h1', hml, h2']
    refine hK _ _ ?_
    clear hK K
    refine ifT (by simp [runM_nil]) ?_
    first | refine pwp_sr ?_ | refine pwp_regionM ?_
    intro K hK
    simp (disch := first | (refine Ok.mk ?_; (try simp only [Lm, La, Lc, Ln, Lt, Ld, Lr, Li, true_or, or_true, true_and, and_true]); omega) | (simp <;> fail) | skip) [runM_nil]
    refine useP (ca) ?_
    simp (disch := first | (refine Ok.mk ?_; (try simp only [Lm, La, Lc, Ln, Lt, Ld, Lr, Li, true_or, or_true, true_and, and_true]); omega) | (simp <;> fail) | skip) [runM_nil]
    refine hK _ _ ?_
    clear hK K
    refine pwp_retT ⟨.inr rfl, _, _, (by simp [runM_nil, resL]; rfl), .refl _, by simp [resV], rfl⟩
end Go.Proofs.Ytjbnomkajfmlpaa.E
